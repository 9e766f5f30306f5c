/- triadlaw2.DiskStays: the walk. -/
import Derived.Test.YtgikaocimconlaaLaw2
import Derived.Test.YtgikaocimconlaaArgs2
namespace Go.Proofs.Ytgikaocimconlaa
open Go.RowKit
set_option linter.unusedVariables false

theorem dKept_snoc (bs : List Bool) (ps : List (Nat × List UInt8)) (p : Nat × List UInt8) (F : List UInt8) :
    dKept bs (ps ++ [p]) F = if bs.getD ps.length false then setRowAt (dKept bs ps F) p.1 p.2 else dKept bs ps F := by
  induction ps generalizing bs F with
  | nil =>
    cases bs with
    | nil => rfl
    | cons b bs =>
      show dKept bs [] _ = _
      rw [dKept_nil2, dKept_nil2]
      rfl
  | cons q qs ih =>
    cases bs with
    | nil => rfl
    | cons b bs => exact ih bs _

theorem dKept_length {n : Nat} (bs : List Bool) : ∀ (ps : List (Nat × List UInt8)) (F : List UInt8), (∀ p ∈ ps, p.1 < n ∧ p.2.length = 512) → F.length = n * 512 → (dKept bs ps F).length = n * 512 := by
  induction bs with
  | nil => intro ps F _ h; exact h
  | cons b bs ih =>
    intro ps F hp h
    cases ps with
    | nil => exact h
    | cons p ps =>
      have h1 := hp p (by simp)
      have h2 : (p.1 + 1) * 512 ≤ n * 512 := Nat.mul_le_mul_right _ h1.1
      refine ih ps _ (fun q hq => hp q (by simp [hq])) ?_
      split
      · unfold setRowAt; rw [splice_length _ _ _ (by rw [h1.2, h]; omega)]; exact h
      · exact h

/-- each row is one byte, and noughts -/
def Rows4 (F : List UInt8) (vs : List UInt8) : Prop := vs.length = 4 ∧ ∀ r, r < 4 → row F r = pad [vs.getD r 0]

theorem Rows4.set {F vs : List UInt8} (h : Rows4 F vs) (hF : F.length = 4 * 512) {r : Nat} (hr : r < 4) (V : UInt8) : Rows4 (setRowAt F r (pad [V])) (vs.set r V) := by
  have hp : (pad [V]).length = 512 := pad_length (by simp)
  refine ⟨by simp [h.1], fun j hj => ?_⟩
  by_cases hjr : j = r
  · subst hjr
    rw [row_set_same hF hr hp]
    simp [List.getD, h.1, hr]
  · rw [row_set_other hF hr hp hjr, h.2 j hj]
    simp [List.getD, List.getElem?_set_ne (fun e => hjr e.symm)]

theorem pad_zero : pad [0] = z512 := by
  unfold pad z512
  show [0] ++ List.replicate 511 0 = List.replicate 512 0
  rw [List.replicate_succ]
  rfl

theorem Rows4.zero : Rows4 (List.replicate (4 * 512) 0) [0, 0, 0, 0] := by
  refine ⟨rfl, fun r hr => ?_⟩
  rw [row_zero hr]
  have : ([0, 0, 0, 0] : List UInt8).getD r 0 = 0 := by
    rcases (show r = 0 ∨ r = 1 ∨ r = 2 ∨ r = 3 by omega) with rfl | rfl | rfl | rfl <;> rfl
  rw [this, pad_zero]

theorem pad_last (x : UInt8) : (bv (pad [x]))[511]? = some (.int .u8 0) := by
  unfold bv pad
  rw [List.getElem?_map, List.getElem?_append_right (by simp), List.getElem?_replicate, if_pos (by simp)]
  rfl

structure Calm (s : DS) (m : Nat) : Prop where
  stop : s.stop = 0
  dead : s.dead = false
  ops : s.ops ≤ (m : Int)

/-- ahead of the sync, or behind it -/
def Mid (sy : Nat) (keep : List Bool) (k : Nat) (s : DS) (vs : List UInt8) : Prop :=
  Calm s (2 * k + 1) ∧ ((k < sy ∧ Rows4 s.now vs) ∨ (sy ≤ k ∧ s.since.length = k - sy ∧ Rows4 (dKept keep s.since s.kept) vs))
def Ahead (sy : Nat) (keep : List Bool) (k : Nat) (s : DS) (vs : List UInt8) : Prop :=
  Calm s (2 * k) ∧ ((k ≤ sy ∧ Rows4 s.now vs) ∨ (sy < k ∧ s.since.length = k - sy ∧ Rows4 (dKept keep s.since s.kept) vs))

theorem Calm.sync {s : DS} {m : Nat} (h : Calm s m) : dSync s = (dSynced (dStep s), 0) ∧ Calm (dSync s).1 (m + 1) := by
  have hs : s.stop < 1 := by have := h.stop; omega
  have e : dSync s = (dSynced (dStep s), 0) := by
    unfold dSync
    rw [if_neg (by rw [h.dead]; simp), if_neg (by rw [dStepGone_calm hs]; simp)]
  refine ⟨e, ?_⟩
  rw [e, dStep_calm hs]
  exact ⟨h.stop, h.dead, by have := h.ops; show s.ops + 1 ≤ _; omega⟩
theorem Calm.write {s : DS} {m r : Nat} {l : List UInt8} (h : Calm s m) (hr : r < 4) (hl : l.length ≤ 512) : dWrite 4 s r l = (dStep (dWritten s r l), 0) ∧ Calm (dStep (dWritten s r l)) (m + 1) := by
  have hs : s.stop < 1 := by have := h.stop; omega
  refine ⟨dWrite_calm h.dead hs hr hl, ?_⟩
  rw [dStep_calm (s := dWritten s r l) hs]
  exact ⟨h.stop, h.dead, by have := h.ops; show s.ops + 1 ≤ _; omega⟩

theorem Ahead.synced {sy : Nat} {keep : List Bool} {s : DS} {vs : List UInt8} (h : Ahead sy keep sy s vs) : Mid sy keep sy (dSync s).1 vs := by
  obtain ⟨hc, h⟩ := h
  obtain ⟨e, hc2⟩ := hc.sync
  refine ⟨hc2, .inr ⟨Nat.le_refl _, ?_, ?_⟩⟩
  · rw [e]; simp [dSynced]
  · rw [e]
    show Rows4 (dKept keep [] (dStep s).now) vs
    rw [dKept_nil2, dStep_now]
    rcases h with h | h
    · exact h.2
    · omega
theorem Ahead.mid {sy k : Nat} {keep : List Bool} {s : DS} {vs : List UInt8} (h : Ahead sy keep k s vs) (hk : k ≠ sy) : Mid sy keep k s vs := by
  refine ⟨⟨h.1.stop, h.1.dead, by have := h.1.ops; omega⟩, ?_⟩
  rcases h.2 with h | h
  · exact .inl ⟨by omega, h.2⟩
  · exact .inr ⟨by omega, h.2⟩

theorem Mid.write {sy k r : Nat} {keep : List Bool} {s : DS} {vs : List UInt8} {V : UInt8} (h : Mid sy keep k s vs) (ok : DOk 4 s) (hr : r < 4) :
    Ahead sy keep (k + 1) (dStep (dWritten s r [V])) (if k < sy ∨ keep.getD (k - sy) false = true then vs.set r V else vs) := by
  have hc := (h.1.write (r := r) (l := [V]) hr (by simp)).2
  refine ⟨⟨hc.stop, hc.dead, by have := hc.ops; omega⟩, ?_⟩
  have e1 : (dStep (dWritten s r [V])).since = s.since ++ [(r, pad [V])] := by rw [dStep_since]; rfl
  have e2 : (dStep (dWritten s r [V])).now = setRowAt s.now r (pad [V]) := by rw [dStep_now]; rfl
  have e3 : (dStep (dWritten s r [V])).kept = s.kept := by rw [dStep_kept]; rfl
  rw [e1, e2, e3]
  rcases h.2 with h | h
  · rw [if_pos (.inl h.1)]
    exact .inl ⟨h.1, h.2.set ok.now hr V⟩
  · refine .inr ⟨by omega, by simp; omega, ?_⟩
    rw [dKept_snoc, h.2.1]
    by_cases hb : keep.getD (k - sy) false = true
    · rw [if_pos hb, if_pos (.inr hb)]
      exact h.2.2.set (dKept_length _ _ _ ok.since ok.kept) hr V
    · rw [if_neg hb, if_neg (by rintro (h1 | h1); omega; exact hb h1)]
      exact h.2.2

/-- how all is where the loop is -/
def StayAt (B d wb sy : Nat) (keep : List Bool) (k : Nat) (w wr : World) : Prop :=
  ∃ fp s vs, Dsk wr d fp 4 s ∧ (∀ q, fp q → B ≤ q) ∧ ¬ fp wb ∧ B ≤ wb ∧ Blk wr wb (bv vs) 52 ∧ Ahead sy keep k s vs ∧ Below B w wr ∧ B ≤ w.heap.size
def MidAt (B d wb sy : Nat) (keep : List Bool) (k : Nat) (w wr : World) (fp : Nat → Prop) (s : DS) (vs : List UInt8) : Prop :=
  Dsk wr d fp 4 s ∧ (∀ q, fp q → B ≤ q) ∧ ¬ fp wb ∧ B ≤ wb ∧ Blk wr wb (bv vs) 52 ∧ Mid sy keep k s vs ∧ Below B w wr ∧ B ≤ w.heap.size

theorem bv_at' {vs : List UInt8} {r : Nat} (h : r < vs.length) : (bv vs)[r]? = some (.int .u8 ((vs.getD r 0).toNat : Int)) := by
  simp [bv, List.getD, h]
theorem bv_set (vs : List UInt8) (r : Nat) (V : UInt8) : (bv vs).set r (.int .u8 (V.toNat : Int)) = bv (vs.set r V) := by
  simp [bv, List.map_set]

set_option maxRecDepth 100000 in
set_option maxHeartbeats 8000000 in
theorem diskStays_walk (a0 : Option Addr) (len0 cap0 : Nat) (z0 : List Int) (a1 : Option Addr) (len1 cap1 : Nat) (z1 : List Int) (a2 : Option Addr) (len2 cap2 : Nat) (z2 : List Bool) (a3 : Int) (w : World)
    (w0 : IsRow .u8 w a0 len0 cap0 z0) (w1 : IsRow .i64 w a1 len1 cap1 z1) (w2 : IsBools w a2 len2 cap2 z2) (w3 : (Lit.int .i64 a3).wf = true) :
    Calls Try.prog 10 #[.slice a0 len0 cap0, .slice a1 len1 cap1, .slice a2 len2 cap2, .int .i64 a3] w fun e w' => e = .returned (.bool true) ∧ Below w.heap.size w w' := by
  obtain ⟨l0, hl0, hb0⟩ := w0.bytes
  have hr1 := w1.rd
  obtain ⟨hl2, hrd2⟩ := w2
  have hz1 : ∀ k, k < len1 → ∃ z, (z1.take len1)[k]? = some z := fun k hk => by
    have h := hr1.1
    rw [List.length_map] at h
    exact ⟨_, List.getElem?_eq_getElem (by omega)⟩
  have HA0 : Hid (∀ k, k < len0 → ∃ ab ao V, a0 = some ⟨ab, ao, none⟩ ∧ w.cell? ⟨ab, ao + k, none⟩ = some (.int .u8 ((V : UInt8).toNat : Int)) ∧ ab < w.heap.size) := hid (fun k hk => by
    rw [← hl0] at hk
    obtain ⟨ab, ao, rfl, hc⟩ := Rd.addr (show Rd w 1 (.slice a0 len0 cap0) l0.length (bv l0) from hb0) (by omega)
    have h1 := hc k (.int .u8 (((l0[k]'hk) : UInt8).toNat : Int)) (by simp [bv, hk])
    exact ⟨ab, ao, _, rfl, h1, World.block_lt_of_cell? w ⟨ab, ao + k, none⟩ h1⟩)
  have HA1 : Hid (∀ k, k < len1 → ∃ ab ao z, a1 = some ⟨ab, ao, none⟩ ∧ w.cell? ⟨ab, ao + k, none⟩ = some (.int .i64 z) ∧ ab < w.heap.size) := hid (fun k hk => by
    obtain ⟨ab, ao, rfl, hc⟩ := hr1.addr (by omega)
    obtain ⟨z, hz⟩ := hz1 k hk
    have h1 := hc k (.int .i64 z) (by rw [List.getElem?_map, hz]; rfl)
    exact ⟨ab, ao, _, rfl, h1, World.block_lt_of_cell? w ⟨ab, ao + k, none⟩ h1⟩)
  have HA2 : Hid (∀ k, k < len2 → ∃ ab ao, a2 = some ⟨ab, ao, none⟩ ∧ w.cell? ⟨ab, ao + k, none⟩ = some (.bool (z2.getD k false)) ∧ ab < w.heap.size) := hid (fun k hk => by
    obtain ⟨ab, ao, rfl, hc⟩ := hrd2.addr (by omega)
    have h1 := hc k (.bool (z2.getD k false)) (by rw [List.getElem?_map, List.getD, List.getElem?_eq_getElem (by omega)]; rfl)
    exact ⟨ab, ao, rfl, h1, World.block_lt_of_cell? w ⟨ab, ao + k, none⟩ h1⟩)
  have HR2 := hid hrd2
  have HL2 := hid hl2
  have HOWN2 : Hid (0 < len2 → ∀ g, Value.ownBlock (.slice a2 len2 cap2) = some g → g < w.heap.size) := hid (fun hp => hrd2.lt hp (by omega))
  clear w0 w1 w3 hr1 hrd2 hb0 hl0 l0 z0 hz1 hl2
  by_cases hsm : len1 ≤ 20 ∧ len0 ≤ 20
  rotate_left
  · by_cases hs1 : len1 ≤ 20
    · have hs0 : ¬ len0 ≤ 20 := fun h => hsm ⟨hs1, h⟩
      clear hsm
      go_enter Try.func10, Try.ntmps10
      go_wp2_with fail
      refine (known2_any _).mono ?_; rintro e1 w1 ⟨rfl, hb1⟩; have B1 := hid hb1; clear hb1
      go_wp2_with fail
      go_ret
      exact ⟨rfl, B1.out⟩
    · clear hsm
      go_enter Try.func10, Try.ntmps10
      go_wp2_with fail
      refine (known2_any _).mono ?_; rintro e1 w1 ⟨rfl, hb1⟩; have B1 := hid hb1; clear hb1
      go_wp2_with fail
      go_ret
      exact ⟨rfl, B1.out⟩
  obtain ⟨hs1, hs0⟩ := hsm
  go_enter Try.func10, Try.ntmps10
  go_wp2_with fail
  refine (known2_any _).mono ?_; rintro e1 w1 ⟨rfl, hb1⟩; have B1 := hid hb1; clear hb1
  go_wp2_with fail
  refine (dNew_any _ _).mono ?_; rintro e1 w2 ⟨d, rfl, hd, hb2, hl⟩
  rw [show clampN 4 = 4 from by decide] at hd
  have D1 := hid hd; have B2 := hid (B1.out.trans (hb2.mono B1.out.size))
  have F1 := hid (fun k (h : w1.heap.size ≤ k ∧ k < w2.heap.size) => (show w.heap.size ≤ k from Nat.le_trans B1.out.size h.1))
  clear hd hb2
  go_wp2_with fail
  refine (within2_any _ _ _ (by omega) (by omega)).mono ?_; rintro e1 wx ⟨rfl, hw⟩
  have m1 := Int.emod_nonneg a3 (show ((len1 : Int) + 1) ≠ 0 by omega); have m2 := Int.emod_lt_of_pos a3 (show (0 : Int) < (len1 : Int) + 1 by omega); generalize a3 % ((len1 : Int) + 1) = x at m1 m2 ⊢
  obtain ⟨sy, rfl⟩ := Int.eq_ofNat_of_zero_le m1
  have hsy : sy ≤ len1 := by omega
  have SA : Hid (StayAt w.heap.size d w2.heap.size sy z2 0 w wx) := hid (by
    rw [← hw]
    refine ⟨_, _, [0, 0, 0, 0], D1.out.chg (Chg.alloc NoFp _ _) (fun _ _ h => h), F1.out, fun h => Nat.lt_irrefl _ h.2, B2.out.size, heap_alloc_new w2 _, ⟨⟨rfl, rfl, ?_⟩, .inl ⟨Nat.zero_le _, Rows4.zero⟩⟩, B2.out.alloc B2.out.size _, Nat.le_refl _⟩
    show (0 : Int) ≤ _
    omega)
  generalize w2.heap.size = wb at SA ⊢
  clear hw D1 B2 F1 m1 m2 B1
  go_wp2_with fail
  go_loopw [11] (fun i wr => ∃ k : Nat, k ≤ len1 ∧ i = .int .i64 k ∧ StayAt w.heap.size d wb sy z2 k w wr) (fun i _ => len1 + 1 - (intOf i).toNat)
  case atStart => exact ⟨0, by omega, rfl, SA.out⟩
  case round =>
    obtain ⟨k, hk, rfl, hat⟩ := hrel
    have SB0 := hid hat
    clear SA hat
    by_cases hlt : k < len1
    · obtain ⟨ab1, ao1, z, rfl, hcz, hab1⟩ := HA1.out k hlt
      have HCZ := hid hcz
      obtain ⟨fp, s, vs, hd, hf, hn1, hn2, hbw, hah, hb, _⟩ := SB0.out
      by_cases hks : k = sy
      · obtain rfl : sy = k := hks.symm
        have hsy2 := dSync_any wr d fp 4 s hd (by have := hah.1.ops; omega)
        rw [show (dSync s).2 = 0 by rw [(hah.1.sync).1]] at hsy2
        have HSY := hid hsy2
        have S0 := hid (And.intro hf (And.intro hn1 (And.intro hn2 (And.intro hbw (And.intro hah hb)))))
        clear hd hf hn1 hn2 hbw hah hb hsy2 SB0
        go_wp2_with fail
        refine HSY.out.mono ?_; rintro e1 wm ⟨rfl, hd5, hc5, hz5⟩
        obtain ⟨fpm, sm, MID⟩ : ∃ fpm sm, Hid (MidAt w.heap.size d wb sy z2 sy w wm fpm sm vs) := ⟨fp, (dSync s).1, hid ⟨hd5, S0.out.1, S0.out.2.1, S0.out.2.2.1, S0.out.2.2.2.1.chg hc5 S0.out.2.1, S0.out.2.2.2.2.1.synced, S0.out.2.2.2.2.2.trans (hc5.below S0.out.1 S0.out.2.2.2.2.2.size), Nat.le_refl _⟩⟩
        have hcz2 : wm.cell? ⟨ab1, ao1 + sy, none⟩ = some (.int .i64 z) := (MID.out.2.2.2.2.2.2.1.cell (p := ⟨ab1, ao1 + sy, none⟩) hab1).trans hcz
        clear hd5 hc5 hz5 S0 HSY hcz
        by_cases ha : sy < len0
        · obtain ⟨ab0, ao0, V0, rfl, hc0, hab0⟩ := HA0.out sy ha
          have hcv : wm.cell? ⟨ab0, ao0 + sy, none⟩ = some (.int .u8 ((V0.toNat : Nat) : Int)) := (MID.out.2.2.2.2.2.2.1.cell (p := ⟨ab0, ao0 + sy, none⟩) hab0).trans hc0
          clear hc0
          go_wp2_with fail
          refine (within2_any _ _ _ (by omega) (by omega)).mono ?_; rintro e1 wx ⟨rfl, rfl⟩
          have m1 := Int.emod_nonneg z (show (4 : Int) ≠ 0 by omega); have m2 := Int.emod_lt_of_pos z (show (0 : Int) < 4 by omega)
          obtain ⟨r, hzr⟩ := Int.eq_ofNat_of_zero_le m1
          rw [hzr]
          have hr : r < 4 := by omega
          have HZ := hid hzr
          clear m1 m2 hzr
          go_wp2_with fail
          have hD := MID.out.1.chg (Chg.alloc NoFp wm (.cells #[Value.int .u8 (V0.toNat : Int)] 5)) (fun _ _ h => h)
          have hB := MID.out.2.2.2.2.2.2.1.alloc MID.out.2.2.2.2.2.2.1.size (.cells #[Value.int .u8 (V0.toNat : Int)] 5)
          have hbw := MID.out.2.2.2.2.1.chg (Chg.alloc NoFp wm (.cells #[Value.int .u8 (V0.toNat : Int)] 5)) (fun h => h)
          have hM := MID.out.2.2.2.2.2.1
          have hcw := (hM.1.write (r := r) (l := [V0]) hr (by simp)).1
          have hwr := dWrite_any _ d fpm 4 sm r _ [V0] hD (Rd.fresh1 _ _ _) (by simp) (by have := hM.1.ops; omega)
          rw [hcw] at hwr
          refine hwr.mono ?_; rintro e1 w5 ⟨rfl, fp5, hd5, hc5, hf5⟩
          have hwbl := hbw.lt
          have F5 := hid (show (∀ q, fp5 q → w.heap.size ≤ q) ∧ ¬ fp5 wb ∧ w.heap.size ≤ wb from ⟨fun q hq => by
              have h1 := hB.size
              rcases hf5 q hq with h | h
              · exact MID.out.2.1 q h
              · omega,
            fun h => by
              rcases hf5 wb h with h | h
              · exact MID.out.2.2.1 h
              · omega, MID.out.2.2.2.1⟩)
          have D5 := hid hd5
          have B5 := hid (hB.trans (hc5.below MID.out.2.1 hB.size))
          have BW := hid (hbw.chg hc5 MID.out.2.2.1)
          have HV4 : Hid (vs.length = 4) := hid (by rcases hM.2 with h | h; exact h.2.1; exact h.2.2.1)
          have hAh0 := hM.write (V := V0) hD.ok hr
          clear hd5 hc5 hf5 hD hB hbw hM hcw hwr hwbl MID
          have hky : ¬ sy < sy := by omega
          rw [Nat.sub_self] at hAh0
          by_cases hj : 0 < len2
          · obtain ⟨ab2, ao2, rfl, hkc0, hab2⟩ := HA2.out (0) hj
            skip
            have hkc : w5.cell? ⟨ab2, ao2, none⟩ = some (.bool (z2.getD (0) false)) := (B5.out.cell (p := ⟨ab2, ao2, none⟩) hab2).trans hkc0
            clear hkc0
            skip
            cases hbit : z2.getD (0) false with
            | true =>
              have hif : sy < sy ∨ z2.getD (0) false = true := .inr hbit
              have hAh := hAh0
              rw [if_pos hif] at hAh
              have AH := hid hAh
              clear hAh hAh0 hif
              rw [hbit] at hkc
              have hcz5 : w5.cell? ⟨ab1, ao1 + sy, none⟩ = some (.int .i64 z) := (B5.out.cell (p := ⟨ab1, ao1 + sy, none⟩) hab1).trans HCZ.out
              go_wp2_with fail
              refine (within2_any _ _ _ (by omega) (by omega)).mono ?_; rintro e1 wx ⟨rfl, rfl⟩
              rw [HZ.out]
              have cw : w5.cell? ⟨wb, r, none⟩ = some (.int .u8 ((vs.getD r 0).toNat : Int)) := by rw [BW.out.cell]; exact bv_at' (by rw [HV4.out]; exact hr)
              have fw : w5.frozen? ⟨wb, r, none⟩ = false := BW.out.frozen r
              go_wp2_with fail
              have HF : Hid (StayAt w.heap.size d wb sy z2 (sy + 1) w (w5.setCell ⟨wb, r, none⟩ (.int .u8 (V0.toNat : Int)))) := hid (by
                have hbw := BW.out.set r (.int .u8 (V0.toNat : Int))
                rw [bv_set] at hbw
                exact ⟨fp5, _, _, D5.out.chg (Chg.setCell (fp := fun q => q = wb) _ rfl _) (fun q hq h => F5.out.2.1 (by have h2 : q = wb := h; rw [← h2]; exact hq)), F5.out.1, F5.out.2.1, F5.out.2.2, hbw, AH.out, B5.out.setCell (Nat.le_trans (Nat.le_refl _) F5.out.2.2) _, Nat.le_refl _⟩)
              go_roundw
              case rel => exact ⟨sy + 1, by omega, by go_num, HF.out⟩
              case measure => simp [intOf]; omega
            | false =>
              have hif : ¬ (sy < sy ∨ z2.getD (0) false = true) := by rw [hbit]; rintro (h | h); exact hky h; cases h
              have hAh := hAh0
              rw [if_neg hif] at hAh
              have AH := hid hAh
              clear hAh hAh0 hif
              rw [hbit] at hkc
              go_wp2_with fail
              have HF : Hid (StayAt w.heap.size d wb sy z2 (sy + 1) w w5) := hid ⟨fp5, _, _, D5.out, F5.out.1, F5.out.2.1, F5.out.2.2, BW.out, AH.out, B5.out, Nat.le_refl _⟩
              go_roundw
              case rel => exact ⟨sy + 1, by omega, by go_num, HF.out⟩
              case measure => simp [intOf]; omega
          · have hif : ¬ (sy < sy ∨ z2.getD (0) false = true) := by rintro (h | h); exact hky h; rw [List.getD, List.getElem?_eq_none (by rw [HL2.out]; omega)] at h; cases h
            have hAh := hAh0
            rw [if_neg hif] at hAh
            have AH := hid hAh
            clear hAh hAh0 hif
            go_wp2_with fail
            have HF : Hid (StayAt w.heap.size d wb sy z2 (sy + 1) w w5) := hid ⟨fp5, _, _, D5.out, F5.out.1, F5.out.2.1, F5.out.2.2, BW.out, AH.out, B5.out, Nat.le_refl _⟩
            go_roundw
            case rel => exact ⟨sy + 1, by omega, by go_num, HF.out⟩
            case measure => simp [intOf]; omega
        · go_wp2_with fail
          obtain ⟨V0, hV0⟩ : ∃ V0 : UInt8, (sy : Int) + 1 = ((V0.toNat : Nat) : Int) := ⟨UInt8.ofNat (sy + 1), by simp; omega⟩
          rw [hV0]
          clear hV0
          refine (within2_any _ _ _ (by omega) (by omega)).mono ?_; rintro e1 wx ⟨rfl, rfl⟩
          have m1 := Int.emod_nonneg z (show (4 : Int) ≠ 0 by omega); have m2 := Int.emod_lt_of_pos z (show (0 : Int) < 4 by omega)
          obtain ⟨r, hzr⟩ := Int.eq_ofNat_of_zero_le m1
          rw [hzr]
          have hr : r < 4 := by omega
          have HZ := hid hzr
          clear m1 m2 hzr
          go_wp2_with fail
          have hD := MID.out.1.chg (Chg.alloc NoFp wm (.cells #[Value.int .u8 (V0.toNat : Int)] 5)) (fun _ _ h => h)
          have hB := MID.out.2.2.2.2.2.2.1.alloc MID.out.2.2.2.2.2.2.1.size (.cells #[Value.int .u8 (V0.toNat : Int)] 5)
          have hbw := MID.out.2.2.2.2.1.chg (Chg.alloc NoFp wm (.cells #[Value.int .u8 (V0.toNat : Int)] 5)) (fun h => h)
          have hM := MID.out.2.2.2.2.2.1
          have hcw := (hM.1.write (r := r) (l := [V0]) hr (by simp)).1
          have hwr := dWrite_any _ d fpm 4 sm r _ [V0] hD (Rd.fresh1 _ _ _) (by simp) (by have := hM.1.ops; omega)
          rw [hcw] at hwr
          refine hwr.mono ?_; rintro e1 w5 ⟨rfl, fp5, hd5, hc5, hf5⟩
          have hwbl := hbw.lt
          have F5 := hid (show (∀ q, fp5 q → w.heap.size ≤ q) ∧ ¬ fp5 wb ∧ w.heap.size ≤ wb from ⟨fun q hq => by
              have h1 := hB.size
              rcases hf5 q hq with h | h
              · exact MID.out.2.1 q h
              · omega,
            fun h => by
              rcases hf5 wb h with h | h
              · exact MID.out.2.2.1 h
              · omega, MID.out.2.2.2.1⟩)
          have D5 := hid hd5
          have B5 := hid (hB.trans (hc5.below MID.out.2.1 hB.size))
          have BW := hid (hbw.chg hc5 MID.out.2.2.1)
          have HV4 : Hid (vs.length = 4) := hid (by rcases hM.2 with h | h; exact h.2.1; exact h.2.2.1)
          have hAh0 := hM.write (V := V0) hD.ok hr
          clear hd5 hc5 hf5 hD hB hbw hM hcw hwr hwbl MID
          have hky : ¬ sy < sy := by omega
          rw [Nat.sub_self] at hAh0
          by_cases hj : 0 < len2
          · obtain ⟨ab2, ao2, rfl, hkc0, hab2⟩ := HA2.out (0) hj
            skip
            have hkc : w5.cell? ⟨ab2, ao2, none⟩ = some (.bool (z2.getD (0) false)) := (B5.out.cell (p := ⟨ab2, ao2, none⟩) hab2).trans hkc0
            clear hkc0
            skip
            cases hbit : z2.getD (0) false with
            | true =>
              have hif : sy < sy ∨ z2.getD (0) false = true := .inr hbit
              have hAh := hAh0
              rw [if_pos hif] at hAh
              have AH := hid hAh
              clear hAh hAh0 hif
              rw [hbit] at hkc
              have hcz5 : w5.cell? ⟨ab1, ao1 + sy, none⟩ = some (.int .i64 z) := (B5.out.cell (p := ⟨ab1, ao1 + sy, none⟩) hab1).trans HCZ.out
              go_wp2_with fail
              refine (within2_any _ _ _ (by omega) (by omega)).mono ?_; rintro e1 wx ⟨rfl, rfl⟩
              rw [HZ.out]
              have cw : w5.cell? ⟨wb, r, none⟩ = some (.int .u8 ((vs.getD r 0).toNat : Int)) := by rw [BW.out.cell]; exact bv_at' (by rw [HV4.out]; exact hr)
              have fw : w5.frozen? ⟨wb, r, none⟩ = false := BW.out.frozen r
              go_wp2_with fail
              have HF : Hid (StayAt w.heap.size d wb sy z2 (sy + 1) w (w5.setCell ⟨wb, r, none⟩ (.int .u8 (V0.toNat : Int)))) := hid (by
                have hbw := BW.out.set r (.int .u8 (V0.toNat : Int))
                rw [bv_set] at hbw
                exact ⟨fp5, _, _, D5.out.chg (Chg.setCell (fp := fun q => q = wb) _ rfl _) (fun q hq h => F5.out.2.1 (by have h2 : q = wb := h; rw [← h2]; exact hq)), F5.out.1, F5.out.2.1, F5.out.2.2, hbw, AH.out, B5.out.setCell (Nat.le_trans (Nat.le_refl _) F5.out.2.2) _, Nat.le_refl _⟩)
              go_roundw
              case rel => exact ⟨sy + 1, by omega, by go_num, HF.out⟩
              case measure => simp [intOf]; omega
            | false =>
              have hif : ¬ (sy < sy ∨ z2.getD (0) false = true) := by rw [hbit]; rintro (h | h); exact hky h; cases h
              have hAh := hAh0
              rw [if_neg hif] at hAh
              have AH := hid hAh
              clear hAh hAh0 hif
              rw [hbit] at hkc
              go_wp2_with fail
              have HF : Hid (StayAt w.heap.size d wb sy z2 (sy + 1) w w5) := hid ⟨fp5, _, _, D5.out, F5.out.1, F5.out.2.1, F5.out.2.2, BW.out, AH.out, B5.out, Nat.le_refl _⟩
              go_roundw
              case rel => exact ⟨sy + 1, by omega, by go_num, HF.out⟩
              case measure => simp [intOf]; omega
          · have hif : ¬ (sy < sy ∨ z2.getD (0) false = true) := by rintro (h | h); exact hky h; rw [List.getD, List.getElem?_eq_none (by rw [HL2.out]; omega)] at h; cases h
            have hAh := hAh0
            rw [if_neg hif] at hAh
            have AH := hid hAh
            clear hAh hAh0 hif
            go_wp2_with fail
            have HF : Hid (StayAt w.heap.size d wb sy z2 (sy + 1) w w5) := hid ⟨fp5, _, _, D5.out, F5.out.1, F5.out.2.1, F5.out.2.2, BW.out, AH.out, B5.out, Nat.le_refl _⟩
            go_roundw
            case rel => exact ⟨sy + 1, by omega, by go_num, HF.out⟩
            case measure => simp [intOf]; omega
      · obtain ⟨wm, fpm, sm, hwm, MID⟩ : ∃ wm fpm sm, wm = wr ∧ Hid (MidAt w.heap.size d wb sy z2 k w wm fpm sm vs) := ⟨wr, fp, s, rfl, hid ⟨hd, hf, hn1, hn2, hbw, hah.mid hks, hb, Nat.le_refl _⟩⟩
        subst hwm
        have hcz2 : wm.cell? ⟨ab1, ao1 + k, none⟩ = some (.int .i64 z) := (hb.cell (p := ⟨ab1, ao1 + k, none⟩) hab1).trans hcz
        clear hd hf hn1 hn2 hbw hah hb hcz SB0
        by_cases ha : k < len0
        · obtain ⟨ab0, ao0, V0, rfl, hc0, hab0⟩ := HA0.out k ha
          have hcv : wm.cell? ⟨ab0, ao0 + k, none⟩ = some (.int .u8 ((V0.toNat : Nat) : Int)) := (MID.out.2.2.2.2.2.2.1.cell (p := ⟨ab0, ao0 + k, none⟩) hab0).trans hc0
          clear hc0
          go_wp2_with fail
          refine (within2_any _ _ _ (by omega) (by omega)).mono ?_; rintro e1 wx ⟨rfl, rfl⟩
          have m1 := Int.emod_nonneg z (show (4 : Int) ≠ 0 by omega); have m2 := Int.emod_lt_of_pos z (show (0 : Int) < 4 by omega)
          obtain ⟨r, hzr⟩ := Int.eq_ofNat_of_zero_le m1
          rw [hzr]
          have hr : r < 4 := by omega
          have HZ := hid hzr
          clear m1 m2 hzr
          go_wp2_with fail
          have hD := MID.out.1.chg (Chg.alloc NoFp wm (.cells #[Value.int .u8 (V0.toNat : Int)] 5)) (fun _ _ h => h)
          have hB := MID.out.2.2.2.2.2.2.1.alloc MID.out.2.2.2.2.2.2.1.size (.cells #[Value.int .u8 (V0.toNat : Int)] 5)
          have hbw := MID.out.2.2.2.2.1.chg (Chg.alloc NoFp wm (.cells #[Value.int .u8 (V0.toNat : Int)] 5)) (fun h => h)
          have hM := MID.out.2.2.2.2.2.1
          have hcw := (hM.1.write (r := r) (l := [V0]) hr (by simp)).1
          have hwr := dWrite_any _ d fpm 4 sm r _ [V0] hD (Rd.fresh1 _ _ _) (by simp) (by have := hM.1.ops; omega)
          rw [hcw] at hwr
          refine hwr.mono ?_; rintro e1 w5 ⟨rfl, fp5, hd5, hc5, hf5⟩
          have hwbl := hbw.lt
          have F5 := hid (show (∀ q, fp5 q → w.heap.size ≤ q) ∧ ¬ fp5 wb ∧ w.heap.size ≤ wb from ⟨fun q hq => by
              have h1 := hB.size
              rcases hf5 q hq with h | h
              · exact MID.out.2.1 q h
              · omega,
            fun h => by
              rcases hf5 wb h with h | h
              · exact MID.out.2.2.1 h
              · omega, MID.out.2.2.2.1⟩)
          have D5 := hid hd5
          have B5 := hid (hB.trans (hc5.below MID.out.2.1 hB.size))
          have BW := hid (hbw.chg hc5 MID.out.2.2.1)
          have HV4 : Hid (vs.length = 4) := hid (by rcases hM.2 with h | h; exact h.2.1; exact h.2.2.1)
          have hAh0 := hM.write (V := V0) hD.ok hr
          clear hd5 hc5 hf5 hD hB hbw hM hcw hwr hwbl MID
          by_cases hky : k < sy
          · have hif : k < sy ∨ z2.getD (k - sy) false = true := .inl hky
            have hAh := hAh0
            rw [if_pos hif] at hAh
            have AH := hid hAh
            clear hAh hAh0 hif
            have hcz5 : w5.cell? ⟨ab1, ao1 + k, none⟩ = some (.int .i64 z) := (B5.out.cell (p := ⟨ab1, ao1 + k, none⟩) hab1).trans HCZ.out
            go_wp2_with fail
            refine (within2_any _ _ _ (by omega) (by omega)).mono ?_; rintro e1 wx ⟨rfl, rfl⟩
            rw [HZ.out]
            have cw : w5.cell? ⟨wb, r, none⟩ = some (.int .u8 ((vs.getD r 0).toNat : Int)) := by rw [BW.out.cell]; exact bv_at' (by rw [HV4.out]; exact hr)
            have fw : w5.frozen? ⟨wb, r, none⟩ = false := BW.out.frozen r
            go_wp2_with fail
            have HF : Hid (StayAt w.heap.size d wb sy z2 (k + 1) w (w5.setCell ⟨wb, r, none⟩ (.int .u8 (V0.toNat : Int)))) := hid (by
              have hbw := BW.out.set r (.int .u8 (V0.toNat : Int))
              rw [bv_set] at hbw
              exact ⟨fp5, _, _, D5.out.chg (Chg.setCell (fp := fun q => q = wb) _ rfl _) (fun q hq h => F5.out.2.1 (by have h2 : q = wb := h; rw [← h2]; exact hq)), F5.out.1, F5.out.2.1, F5.out.2.2, hbw, AH.out, B5.out.setCell (Nat.le_trans (Nat.le_refl _) F5.out.2.2) _, Nat.le_refl _⟩)
            go_roundw
            case rel => exact ⟨k + 1, by omega, by go_num, HF.out⟩
            case measure => simp [intOf]; omega
          · by_cases hj : k - sy < len2
            · obtain ⟨ab2, ao2, rfl, hkc0, hab2⟩ := HA2.out (k - sy) hj
              have hsub : ((k : Int) - (sy : Int)) = ((k - sy : Nat) : Int) := by omega
              have hkc : w5.cell? ⟨ab2, ao2 + (k - sy), none⟩ = some (.bool (z2.getD (k - sy) false)) := (B5.out.cell (p := ⟨ab2, ao2 + (k - sy), none⟩) hab2).trans hkc0
              clear hkc0
              have hto : ((k : Int) - (sy : Int)).toNat = k - sy := by omega
              cases hbit : z2.getD (k - sy) false with
              | true =>
                have hif : k < sy ∨ z2.getD (k - sy) false = true := .inr hbit
                have hAh := hAh0
                rw [if_pos hif] at hAh
                have AH := hid hAh
                clear hAh hAh0 hif
                rw [hbit] at hkc
                have hcz5 : w5.cell? ⟨ab1, ao1 + k, none⟩ = some (.int .i64 z) := (B5.out.cell (p := ⟨ab1, ao1 + k, none⟩) hab1).trans HCZ.out
                go_wp2_with fail
                refine (within2_any _ _ _ (by omega) (by omega)).mono ?_; rintro e1 wx ⟨rfl, rfl⟩
                rw [HZ.out]
                have cw : w5.cell? ⟨wb, r, none⟩ = some (.int .u8 ((vs.getD r 0).toNat : Int)) := by rw [BW.out.cell]; exact bv_at' (by rw [HV4.out]; exact hr)
                have fw : w5.frozen? ⟨wb, r, none⟩ = false := BW.out.frozen r
                go_wp2_with fail
                have HF : Hid (StayAt w.heap.size d wb sy z2 (k + 1) w (w5.setCell ⟨wb, r, none⟩ (.int .u8 (V0.toNat : Int)))) := hid (by
                  have hbw := BW.out.set r (.int .u8 (V0.toNat : Int))
                  rw [bv_set] at hbw
                  exact ⟨fp5, _, _, D5.out.chg (Chg.setCell (fp := fun q => q = wb) _ rfl _) (fun q hq h => F5.out.2.1 (by have h2 : q = wb := h; rw [← h2]; exact hq)), F5.out.1, F5.out.2.1, F5.out.2.2, hbw, AH.out, B5.out.setCell (Nat.le_trans (Nat.le_refl _) F5.out.2.2) _, Nat.le_refl _⟩)
                go_roundw
                case rel => exact ⟨k + 1, by omega, by go_num, HF.out⟩
                case measure => simp [intOf]; omega
              | false =>
                have hif : ¬ (k < sy ∨ z2.getD (k - sy) false = true) := by rw [hbit]; rintro (h | h); exact hky h; cases h
                have hAh := hAh0
                rw [if_neg hif] at hAh
                have AH := hid hAh
                clear hAh hAh0 hif
                rw [hbit] at hkc
                go_wp2_with fail
                have HF : Hid (StayAt w.heap.size d wb sy z2 (k + 1) w w5) := hid ⟨fp5, _, _, D5.out, F5.out.1, F5.out.2.1, F5.out.2.2, BW.out, AH.out, B5.out, Nat.le_refl _⟩
                go_roundw
                case rel => exact ⟨k + 1, by omega, by go_num, HF.out⟩
                case measure => simp [intOf]; omega
            · have hif : ¬ (k < sy ∨ z2.getD (k - sy) false = true) := by rintro (h | h); exact hky h; rw [List.getD, List.getElem?_eq_none (by rw [HL2.out]; omega)] at h; cases h
              have hAh := hAh0
              rw [if_neg hif] at hAh
              have AH := hid hAh
              clear hAh hAh0 hif
              go_wp2_with fail
              have HF : Hid (StayAt w.heap.size d wb sy z2 (k + 1) w w5) := hid ⟨fp5, _, _, D5.out, F5.out.1, F5.out.2.1, F5.out.2.2, BW.out, AH.out, B5.out, Nat.le_refl _⟩
              go_roundw
              case rel => exact ⟨k + 1, by omega, by go_num, HF.out⟩
              case measure => simp [intOf]; omega
        · go_wp2_with fail
          obtain ⟨V0, hV0⟩ : ∃ V0 : UInt8, (k : Int) + 1 = ((V0.toNat : Nat) : Int) := ⟨UInt8.ofNat (k + 1), by simp; omega⟩
          rw [hV0]
          clear hV0
          refine (within2_any _ _ _ (by omega) (by omega)).mono ?_; rintro e1 wx ⟨rfl, rfl⟩
          have m1 := Int.emod_nonneg z (show (4 : Int) ≠ 0 by omega); have m2 := Int.emod_lt_of_pos z (show (0 : Int) < 4 by omega)
          obtain ⟨r, hzr⟩ := Int.eq_ofNat_of_zero_le m1
          rw [hzr]
          have hr : r < 4 := by omega
          have HZ := hid hzr
          clear m1 m2 hzr
          go_wp2_with fail
          have hD := MID.out.1.chg (Chg.alloc NoFp wm (.cells #[Value.int .u8 (V0.toNat : Int)] 5)) (fun _ _ h => h)
          have hB := MID.out.2.2.2.2.2.2.1.alloc MID.out.2.2.2.2.2.2.1.size (.cells #[Value.int .u8 (V0.toNat : Int)] 5)
          have hbw := MID.out.2.2.2.2.1.chg (Chg.alloc NoFp wm (.cells #[Value.int .u8 (V0.toNat : Int)] 5)) (fun h => h)
          have hM := MID.out.2.2.2.2.2.1
          have hcw := (hM.1.write (r := r) (l := [V0]) hr (by simp)).1
          have hwr := dWrite_any _ d fpm 4 sm r _ [V0] hD (Rd.fresh1 _ _ _) (by simp) (by have := hM.1.ops; omega)
          rw [hcw] at hwr
          refine hwr.mono ?_; rintro e1 w5 ⟨rfl, fp5, hd5, hc5, hf5⟩
          have hwbl := hbw.lt
          have F5 := hid (show (∀ q, fp5 q → w.heap.size ≤ q) ∧ ¬ fp5 wb ∧ w.heap.size ≤ wb from ⟨fun q hq => by
              have h1 := hB.size
              rcases hf5 q hq with h | h
              · exact MID.out.2.1 q h
              · omega,
            fun h => by
              rcases hf5 wb h with h | h
              · exact MID.out.2.2.1 h
              · omega, MID.out.2.2.2.1⟩)
          have D5 := hid hd5
          have B5 := hid (hB.trans (hc5.below MID.out.2.1 hB.size))
          have BW := hid (hbw.chg hc5 MID.out.2.2.1)
          have HV4 : Hid (vs.length = 4) := hid (by rcases hM.2 with h | h; exact h.2.1; exact h.2.2.1)
          have hAh0 := hM.write (V := V0) hD.ok hr
          clear hd5 hc5 hf5 hD hB hbw hM hcw hwr hwbl MID
          by_cases hky : k < sy
          · have hif : k < sy ∨ z2.getD (k - sy) false = true := .inl hky
            have hAh := hAh0
            rw [if_pos hif] at hAh
            have AH := hid hAh
            clear hAh hAh0 hif
            have hcz5 : w5.cell? ⟨ab1, ao1 + k, none⟩ = some (.int .i64 z) := (B5.out.cell (p := ⟨ab1, ao1 + k, none⟩) hab1).trans HCZ.out
            go_wp2_with fail
            refine (within2_any _ _ _ (by omega) (by omega)).mono ?_; rintro e1 wx ⟨rfl, rfl⟩
            rw [HZ.out]
            have cw : w5.cell? ⟨wb, r, none⟩ = some (.int .u8 ((vs.getD r 0).toNat : Int)) := by rw [BW.out.cell]; exact bv_at' (by rw [HV4.out]; exact hr)
            have fw : w5.frozen? ⟨wb, r, none⟩ = false := BW.out.frozen r
            go_wp2_with fail
            have HF : Hid (StayAt w.heap.size d wb sy z2 (k + 1) w (w5.setCell ⟨wb, r, none⟩ (.int .u8 (V0.toNat : Int)))) := hid (by
              have hbw := BW.out.set r (.int .u8 (V0.toNat : Int))
              rw [bv_set] at hbw
              exact ⟨fp5, _, _, D5.out.chg (Chg.setCell (fp := fun q => q = wb) _ rfl _) (fun q hq h => F5.out.2.1 (by have h2 : q = wb := h; rw [← h2]; exact hq)), F5.out.1, F5.out.2.1, F5.out.2.2, hbw, AH.out, B5.out.setCell (Nat.le_trans (Nat.le_refl _) F5.out.2.2) _, Nat.le_refl _⟩)
            go_roundw
            case rel => exact ⟨k + 1, by omega, by go_num, HF.out⟩
            case measure => simp [intOf]; omega
          · by_cases hj : k - sy < len2
            · obtain ⟨ab2, ao2, rfl, hkc0, hab2⟩ := HA2.out (k - sy) hj
              have hsub : ((k : Int) - (sy : Int)) = ((k - sy : Nat) : Int) := by omega
              have hkc : w5.cell? ⟨ab2, ao2 + (k - sy), none⟩ = some (.bool (z2.getD (k - sy) false)) := (B5.out.cell (p := ⟨ab2, ao2 + (k - sy), none⟩) hab2).trans hkc0
              clear hkc0
              have hto : ((k : Int) - (sy : Int)).toNat = k - sy := by omega
              cases hbit : z2.getD (k - sy) false with
              | true =>
                have hif : k < sy ∨ z2.getD (k - sy) false = true := .inr hbit
                have hAh := hAh0
                rw [if_pos hif] at hAh
                have AH := hid hAh
                clear hAh hAh0 hif
                rw [hbit] at hkc
                have hcz5 : w5.cell? ⟨ab1, ao1 + k, none⟩ = some (.int .i64 z) := (B5.out.cell (p := ⟨ab1, ao1 + k, none⟩) hab1).trans HCZ.out
                go_wp2_with fail
                refine (within2_any _ _ _ (by omega) (by omega)).mono ?_; rintro e1 wx ⟨rfl, rfl⟩
                rw [HZ.out]
                have cw : w5.cell? ⟨wb, r, none⟩ = some (.int .u8 ((vs.getD r 0).toNat : Int)) := by rw [BW.out.cell]; exact bv_at' (by rw [HV4.out]; exact hr)
                have fw : w5.frozen? ⟨wb, r, none⟩ = false := BW.out.frozen r
                go_wp2_with fail
                have HF : Hid (StayAt w.heap.size d wb sy z2 (k + 1) w (w5.setCell ⟨wb, r, none⟩ (.int .u8 (V0.toNat : Int)))) := hid (by
                  have hbw := BW.out.set r (.int .u8 (V0.toNat : Int))
                  rw [bv_set] at hbw
                  exact ⟨fp5, _, _, D5.out.chg (Chg.setCell (fp := fun q => q = wb) _ rfl _) (fun q hq h => F5.out.2.1 (by have h2 : q = wb := h; rw [← h2]; exact hq)), F5.out.1, F5.out.2.1, F5.out.2.2, hbw, AH.out, B5.out.setCell (Nat.le_trans (Nat.le_refl _) F5.out.2.2) _, Nat.le_refl _⟩)
                go_roundw
                case rel => exact ⟨k + 1, by omega, by go_num, HF.out⟩
                case measure => simp [intOf]; omega
              | false =>
                have hif : ¬ (k < sy ∨ z2.getD (k - sy) false = true) := by rw [hbit]; rintro (h | h); exact hky h; cases h
                have hAh := hAh0
                rw [if_neg hif] at hAh
                have AH := hid hAh
                clear hAh hAh0 hif
                rw [hbit] at hkc
                go_wp2_with fail
                have HF : Hid (StayAt w.heap.size d wb sy z2 (k + 1) w w5) := hid ⟨fp5, _, _, D5.out, F5.out.1, F5.out.2.1, F5.out.2.2, BW.out, AH.out, B5.out, Nat.le_refl _⟩
                go_roundw
                case rel => exact ⟨k + 1, by omega, by go_num, HF.out⟩
                case measure => simp [intOf]; omega
            · have hif : ¬ (k < sy ∨ z2.getD (k - sy) false = true) := by rintro (h | h); exact hky h; rw [List.getD, List.getElem?_eq_none (by rw [HL2.out]; omega)] at h; cases h
              have hAh := hAh0
              rw [if_neg hif] at hAh
              have AH := hid hAh
              clear hAh hAh0 hif
              go_wp2_with fail
              have HF : Hid (StayAt w.heap.size d wb sy z2 (k + 1) w w5) := hid ⟨fp5, _, _, D5.out, F5.out.1, F5.out.2.1, F5.out.2.2, BW.out, AH.out, B5.out, Nat.le_refl _⟩
              go_roundw
              case rel => exact ⟨k + 1, by omega, by go_num, HF.out⟩
              case measure => simp [intOf]; omega
    · obtain ⟨fp, s, vs, hd, hf, hn1, hn2, hbw, hah, hb, _⟩ := SB0.out
      have hk2 : k = len1 := by omega
      subst hk2
      by_cases hks : k = sy
      · obtain rfl : sy = k := hks.symm
        have hsy2 := dSync_any wr d fp 4 s hd (by have := hah.1.ops; omega)
        rw [show (dSync s).2 = 0 by rw [(hah.1.sync).1]] at hsy2
        have HSY := hid hsy2
        have S0 := hid (And.intro hf (And.intro hn1 (And.intro hn2 (And.intro hbw (And.intro hah hb)))))
        clear hd hf hn1 hn2 hbw hah hb hsy2 SB0
        go_wp2_with fail
        refine HSY.out.mono ?_; rintro e1 wm ⟨rfl, hd5, hc5, hz5⟩
        obtain ⟨fpm, sm, MID⟩ : ∃ fpm sm, Hid (MidAt w.heap.size d wb sy z2 sy w wm fpm sm vs) := ⟨fp, (dSync s).1, hid ⟨hd5, S0.out.1, S0.out.2.1, S0.out.2.2.1, S0.out.2.2.2.1.chg hc5 S0.out.2.1, S0.out.2.2.2.2.1.synced, S0.out.2.2.2.2.2.trans (hc5.below S0.out.1 S0.out.2.2.2.2.2.size), Nat.le_refl _⟩⟩
        clear hd5 hc5 hz5 S0 HSY
        go_wp2_with fail
        have hR : Rows4 (dKept z2 sm.since sm.kept) vs := by
          rcases MID.out.2.2.2.2.2.1.2 with h | h
          · omega
          · exact h.2.2
        refine (dCrash_any _ d fpm 4 sm _ z2 MID.out.1 (by rw [HL2.out]; exact Rd.chg HR2.out (Chg.of_below MID.out.2.2.2.2.2.2.1 (fp := fun q => w.heap.size ≤ q) (fun q _ h => h)) (fun _ g _ hlt h => by have h2 : w.heap.size ≤ g := h; omega)) (fun hp g hg h => by have h1 := HOWN2.out (by rw [← HL2.out]; exact hp) g hg; have h2 := MID.out.2.1 g h; omega)).mono ?_
        rintro e1 wc ⟨rfl, hdc, hcc⟩
        have hnow : Rows4 (dCrash sm z2).now vs := hR
        generalize hsd : dCrash sm z2 = sd at hdc hnow
        have hdead : sd.dead = false := by rw [← hsd]; rfl
        have L2 : Hid (Dsk wc d fpm 4 sd ∧ Blk wc wb (bv vs) 52 ∧ Below w.heap.size w wc) := hid ⟨hdc, MID.out.2.2.2.2.1.chg hcc MID.out.2.2.1, MID.out.2.2.2.2.2.2.1.trans (hcc.below MID.out.2.1 MID.out.2.2.2.2.2.2.1.size)⟩
        have HN := hid hnow
        have HDD := hid hdead
        have HF := hid MID.out.2.1
        clear hdc hnow hsd hdead hR MID hcc HA0 HA1 HA2 HR2 HL2 HOWN2
        go_wp2_with fail
        go_loopw [13] (fun i wr => ∃ j : Nat, j ≤ 4 ∧ i = .int .i64 j ∧ Dsk wr d fpm 4 sd ∧ Blk wr wb (bv vs) 52 ∧ Below w.heap.size w wr) (fun i _ => 5 - (intOf i).toNat)
        case atStart => exact ⟨0, by omega, rfl, L2.out⟩
        case round =>
          obtain ⟨j, hj, rfl, hd3, hb3, hbl3⟩ := hrel
          clear L2
          by_cases hj4 : j < 4
          · have D3 := hid hd3
            have W3 := hid hb3
            have B3 := hid hbl3
            clear hd3 hb3 hbl3
            go_wp2_with fail
            have hrd := dRead_ok _ d fpm 4 sd j D3.out HDD.out hj4
            rw [HN.out.2 j hj4] at hrd
            refine hrd.mono ?_; rintro e1 w6 ⟨g, rfl, hg, hrow, hb6⟩
            clear hrd
            have x0 : w6.cell? ⟨g, 0, none⟩ = some (.int .u8 ((vs.getD j 0).toNat : Int)) := by rw [hrow.cell]; rfl
            have x5 : w6.cell? ⟨g, 511, none⟩ = some (.int .u8 0) := by rw [hrow.cell]; exact pad_last _
            have hb4 := W3.out.chg (Chg.new hb6 NoFp) (fun h => h)
            have xw : w6.cell? ⟨wb, j, none⟩ = some (.int .u8 ((vs.getD j 0).toNat : Int)) := by rw [hb4.cell]; exact bv_at' (by rw [HN.out.1]; exact hj4)
            have D4 := hid (D3.out.chg (Chg.new hb6 NoFp) (fun _ _ h => h))
            have W4 := hid hb4
            have B4 := hid (B3.out.trans (hb6.mono B3.out.size))
            clear hrow hb6 hb4 D3 W3 B3
            go_wp2_with fail
            go_quiet (fail)
            go_wp2_with fail
            go_roundw
            case rel => exact ⟨j + 1, by omega, by go_num, D4.out.chg (Chg.drewN NoFp _ _) (fun _ _ h => h), W4.out.chg (Chg.drewN NoFp _ _) (fun h => h), below_drewN B4.out _⟩
            case measure => simp [intOf]; omega
          · have B3 := hid hbl3
            clear hd3 hb3 hbl3
            go_wp2_with fail
            go_ret
            exact ⟨rfl, B3.out⟩
      · obtain ⟨wm, fpm, sm, hwm, MID⟩ : ∃ wm fpm sm, wm = wr ∧ Hid (MidAt w.heap.size d wb sy z2 k w wm fpm sm vs) := ⟨wr, fp, s, rfl, hid ⟨hd, hf, hn1, hn2, hbw, hah.mid hks, hb, Nat.le_refl _⟩⟩
        subst hwm
        clear hd hf hn1 hn2 hbw hah hb SB0
        go_wp2_with fail
        have hR : Rows4 (dKept z2 sm.since sm.kept) vs := by
          rcases MID.out.2.2.2.2.2.1.2 with h | h
          · omega
          · exact h.2.2
        refine (dCrash_any _ d fpm 4 sm _ z2 MID.out.1 (by rw [HL2.out]; exact Rd.chg HR2.out (Chg.of_below MID.out.2.2.2.2.2.2.1 (fp := fun q => w.heap.size ≤ q) (fun q _ h => h)) (fun _ g _ hlt h => by have h2 : w.heap.size ≤ g := h; omega)) (fun hp g hg h => by have h1 := HOWN2.out (by rw [← HL2.out]; exact hp) g hg; have h2 := MID.out.2.1 g h; omega)).mono ?_
        rintro e1 wc ⟨rfl, hdc, hcc⟩
        have hnow : Rows4 (dCrash sm z2).now vs := hR
        generalize hsd : dCrash sm z2 = sd at hdc hnow
        have hdead : sd.dead = false := by rw [← hsd]; rfl
        have L2 : Hid (Dsk wc d fpm 4 sd ∧ Blk wc wb (bv vs) 52 ∧ Below w.heap.size w wc) := hid ⟨hdc, MID.out.2.2.2.2.1.chg hcc MID.out.2.2.1, MID.out.2.2.2.2.2.2.1.trans (hcc.below MID.out.2.1 MID.out.2.2.2.2.2.2.1.size)⟩
        have HN := hid hnow
        have HDD := hid hdead
        have HF := hid MID.out.2.1
        clear hdc hnow hsd hdead hR MID hcc HA0 HA1 HA2 HR2 HL2 HOWN2
        go_wp2_with fail
        go_loopw [13] (fun i wr => ∃ j : Nat, j ≤ 4 ∧ i = .int .i64 j ∧ Dsk wr d fpm 4 sd ∧ Blk wr wb (bv vs) 52 ∧ Below w.heap.size w wr) (fun i _ => 5 - (intOf i).toNat)
        case atStart => exact ⟨0, by omega, rfl, L2.out⟩
        case round =>
          obtain ⟨j, hj, rfl, hd3, hb3, hbl3⟩ := hrel
          clear L2
          by_cases hj4 : j < 4
          · have D3 := hid hd3
            have W3 := hid hb3
            have B3 := hid hbl3
            clear hd3 hb3 hbl3
            go_wp2_with fail
            have hrd := dRead_ok _ d fpm 4 sd j D3.out HDD.out hj4
            rw [HN.out.2 j hj4] at hrd
            refine hrd.mono ?_; rintro e1 w6 ⟨g, rfl, hg, hrow, hb6⟩
            clear hrd
            have x0 : w6.cell? ⟨g, 0, none⟩ = some (.int .u8 ((vs.getD j 0).toNat : Int)) := by rw [hrow.cell]; rfl
            have x5 : w6.cell? ⟨g, 511, none⟩ = some (.int .u8 0) := by rw [hrow.cell]; exact pad_last _
            have hb4 := W3.out.chg (Chg.new hb6 NoFp) (fun h => h)
            have xw : w6.cell? ⟨wb, j, none⟩ = some (.int .u8 ((vs.getD j 0).toNat : Int)) := by rw [hb4.cell]; exact bv_at' (by rw [HN.out.1]; exact hj4)
            have D4 := hid (D3.out.chg (Chg.new hb6 NoFp) (fun _ _ h => h))
            have W4 := hid hb4
            have B4 := hid (B3.out.trans (hb6.mono B3.out.size))
            clear hrow hb6 hb4 D3 W3 B3
            go_wp2_with fail
            go_quiet (fail)
            go_wp2_with fail
            go_roundw
            case rel => exact ⟨j + 1, by omega, by go_num, D4.out.chg (Chg.drewN NoFp _ _) (fun _ _ h => h), W4.out.chg (Chg.drewN NoFp _ _) (fun h => h), below_drewN B4.out _⟩
            case measure => simp [intOf]; omega
          · have B3 := hid hbl3
            clear hd3 hb3 hbl3
            go_wp2_with fail
            go_ret
            exact ⟨rfl, B3.out⟩
end Go.Proofs.Ytgikaocimconlaa
