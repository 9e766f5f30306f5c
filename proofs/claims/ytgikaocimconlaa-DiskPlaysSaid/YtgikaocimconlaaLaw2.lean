/- package disk: calls in one word; triadlaw2: within, known. -/
import Derived.Test.YtgikaocimconlaaDisk4
import Derived.Test.YtgikaocimconlaaTmod
namespace Go.Proofs.Ytgikaocimconlaa
open Go.RowKit
set_option linter.unusedVariables false

theorem row_set_same {F r : List UInt8} {n k : Nat} (hF : F.length = n * 512) (hk : k < n) (hr : r.length = 512) : row (setRowAt F k r) k = r := by
  have : (k + 1) * 512 ≤ n * 512 := Nat.mul_le_mul_right _ hk
  unfold row setRowAt splice
  have h1 : (F.take (k * 512)).length = k * 512 := by rw [List.length_take]; omega
  rw [List.drop_left' h1, List.take_left' hr]
theorem row_set_other {F r : List UInt8} {n k j : Nat} (hF : F.length = n * 512) (hk : k < n) (hr : r.length = 512) (hj : j ≠ k) : row (setRowAt F k r) j = row F j := by
  have : (k + 1) * 512 ≤ n * 512 := Nat.mul_le_mul_right _ hk
  unfold row setRowAt splice
  have h1 : (F.take (k * 512)).length = k * 512 := by rw [List.length_take]; omega
  apply List.ext_getElem?
  intro i
  rw [List.getElem?_take, List.getElem?_take]
  split
  · rw [List.getElem?_drop, List.getElem?_drop]
    rcases Nat.lt_or_ge j k with h | h
    · have h2 : j * 512 + i < k * 512 := by
        have : (j + 1) * 512 ≤ k * 512 := Nat.mul_le_mul_right _ h
        omega
      rw [List.getElem?_append_left (by omega), List.getElem?_take, if_pos h2]
    · have h3 : (k + 1) * 512 ≤ j * 512 := Nat.mul_le_mul_right _ (by omega)
      rw [List.getElem?_append_right (by omega), List.getElem?_append_right (by omega), h1, List.getElem?_drop]
      exact congrArg (fun q => F[q]?) (by omega)
  · rfl
theorem row_zero {n k : Nat} (hk : k < n) : row (List.replicate (n * 512) 0) k = z512 := by
  have : (k + 1) * 512 ≤ n * 512 := Nat.mul_le_mul_right _ hk
  unfold row z512
  rw [List.drop_replicate, List.take_replicate]
  exact congrArg (fun q => List.replicate q 0) (by omega)

theorem dStep_calm {s : DS} (h : s.stop < 1) : dStep s = { s with ops := s.ops + 1 } := if_pos h
theorem dStepGone_calm {s : DS} (h : s.stop < 1) : dStepGone s = false := if_pos h

theorem dWrite_any (w : World) (d : Nat) (fp : Nat → Prop) (n : Nat) (s : DS) (at_ : Int) (v : Value) (l : List UInt8) (h : Dsk w d fp n s) (hv : Bs w v l) (hl : l.length ≤ 1000000) (ho : s.ops ≤ 1000000) :
    Calls Try.prog 32 #[.pointer (some ⟨d, 0, none⟩), .int .i64 at_, v] w fun e w' => e = .returned (.int .i64 (dWrite n s at_ l).2) ∧ DskTo w d fp n (dWrite n s at_ l).1 w' := by
  by_cases hbad : s.dead = true ∨ ¬ (0 ≤ at_ ∧ at_ < n) ∨ 512 < l.length
  · refine (dWrite_err w d fp n s at_ v l h hv hl hbad).mono ?_
    rintro e w' ⟨rfl, rfl⟩
    have hw : dWrite n s at_ l = (s, if s.dead then 13 else 1) := by
      unfold dWrite
      by_cases hd : s.dead = true
      · rw [if_pos hd, if_pos hd]
      · rw [if_neg hd, if_neg hd, if_pos (hbad.resolve_left hd)]
    rw [hw]
    exact ⟨rfl, h.to⟩
  · have hd : s.dead = false := by cases hx : s.dead with | true => exact absurd (.inl hx) hbad | false => rfl
    have hr : ¬ (¬ (0 ≤ at_ ∧ at_ < n) ∨ 512 < l.length) := fun hx => hbad (.inr hx)
    obtain ⟨k, rfl⟩ := Int.eq_ofNat_of_zero_le (show 0 ≤ at_ by omega)
    refine (dWrite_ok w d fp n s k v l h hv hd (by omega) (by omega) ho).mono ?_
    have hw : dWrite n s k l = (dStep (dWritten s k l), if dStepGone s then 13 else 0) := by
      unfold dWrite
      rw [if_neg (by rw [hd]; simp), if_neg hr]
      rfl
    rw [hw]
    intro e w' he
    exact he

/-- a disk that lies behind a block -/
def DskIn (B : Nat) (w : World) (d n : Nat) (s : DS) : Prop := ∃ fp, Dsk w d fp n s ∧ ∀ k, fp k → B ≤ k
theorem DskTo.in {w w' : World} {d : Nat} {fp : Nat → Prop} {n : Nat} {s : DS} {B : Nat} (h : DskTo w d fp n s w') (hB : ∀ k, fp k → B ≤ k) (hs : B ≤ w.heap.size) : DskIn B w' d n s ∧ Below B w w' := by
  obtain ⟨fp', h1, h2, h3⟩ := h
  refine ⟨⟨fp', h1, fun k hk => ?_⟩, h2.below hB hs⟩
  rcases h3 k hk with h | h
  · exact hB k h
  · omega

theorem within2_any (a n : Int) (w : World) (hn : 0 < n) (hn2 : n ≤ 1000000) :
    Calls Try.prog 33 #[.int .i64 a, .int .i64 n] w fun e w' => e = .returned (.int .i64 (a % n)) ∧ w = w' := by
  have hu := hid (tmod_up a n hn)
  have hb := tmod_bd a n hn
  have h0 : (n == 0) = false := by simp; omega
  by_cases hlt : a.tmod n < 0
  · have he := hid (hu.out)
    go_enter Try.func33, Try.ntmps33
    go_wp2
    go_ret
    have h := he.out
    rw [if_pos (by omega)] at h
    exact ⟨by rw [← h]; rfl, rfl⟩
  · have he := hid (hu.out)
    go_enter Try.func33, Try.ntmps33
    go_wp2
    go_ret
    have h := he.out
    rw [if_neg (by omega)] at h
    exact ⟨by rw [← h]; rfl, rfl⟩

theorem dWrite_calm {n : Nat} {s : DS} {k : Nat} {l : List UInt8} (hd : s.dead = false) (hs : s.stop < 1) (hk : k < n) (hl : l.length ≤ 512) : dWrite n s k l = (dStep (dWritten s k l), 0) := by
  unfold dWrite
  rw [if_neg (by rw [hd]; simp), if_neg (by omega), dStepGone_calm hs]
  rfl
def sKnown : DS := dCrash (dStep (dWritten (dNew 5) 1 [7])) [true]
theorem dCrash_one (s : DS) (k : Nat) (r : List UInt8) (h : s.since = [(k, r)]) : (dCrash s [true]).now = setRowAt s.kept k r := by
  unfold dCrash
  rw [h]; rfl
theorem sKnown_row : row sKnown.now 1 = pad [7] := by
  have h1 : (dStep (dWritten (dNew 5) 1 [7])).since = [(1, pad [7])] := by rw [dStep_since]; rfl
  unfold sKnown
  rw [dCrash_one _ _ _ h1, dStep_kept]
  exact row_set_same (n := 5) (List.length_replicate) (by omega) (pad_length (by simp))

set_option maxRecDepth 100000 in
theorem known2_any (w : World) : Calls Try.prog 30 #[] w fun e w' => e = .returned (.bool true) ∧ Below w.heap.size w w' := by
  go_enter Try.func30, Try.ntmps30
  go_wp2_with fail
  refine (dNew_any _ _).mono ?_; rintro e1 w1 ⟨d, rfl, hd, hb1, hl⟩
  rw [show clampN 5 = 5 from by decide] at hd
  have D1 := hid (hd.chg (Chg.alloc NoFp w1 (.cells #[Value.int .u8 7] 5)) (fun _ _ h => h)); have B1 := hid (hb1.alloc hb1.size (.cells #[Value.int .u8 7] 5))
  clear hd hb1
  go_wp2_with fail
  refine (dWrite_any _ d _ 5 _ (1 : Nat) _ [7] D1.out (Rd.fresh1 _ _ _) (by simp) (by simp [dNew])).mono ?_
  rw [dWrite_calm (n := 5) (s := dNew 5) rfl (by simp [dNew]) (by omega) (by simp)]
  rintro e2 w2 ⟨rfl, fp2, hd2, hc2, hf2⟩
  have D2 := hid (hd2.chg (Chg.alloc NoFp w2 (.cells #[Value.bool true] 4)) (fun _ _ h => h))
  have F2 := hid (And.intro hd2.lt (fun k hk => show w.heap.size ≤ k by have := B1.out.size; rcases hf2 k hk with h | h; exact h.1; omega))
  have B2 := hid ((B1.out.trans (hc2.below (fun k h => h.1) B1.out.size)).alloc (Nat.le_trans B1.out.size hc2.size) (.cells #[Value.bool true] 4))
  clear hd2 hc2 hf2 D1 B1
  go_wp2_with fail
  refine (dCrash_any _ d _ 5 _ _ [true] D2.out (Rd.fresh1 _ _ _) (fun _ g hg h => by cases hg; exact Nat.lt_irrefl _ (F2.out.1 _ h))).mono ?_
  rintro e3 w3 ⟨rfl, hd3, hc3⟩
  have D3 : Hid (Dsk w3 d fp2 5 sKnown) := hid hd3
  have B3 := hid (B2.out.trans (hc3.below F2.out.2 B2.out.size))
  clear hd3 hc3 D2 B2
  go_wp2_with fail
  refine (dRead_ok _ d _ 5 sKnown 1 D3.out rfl (by omega)).mono ?_
  rw [sKnown_row]
  rintro e4 w4 ⟨g, rfl, hg, hrow, hb4⟩
  have c7 : w4.cell? ⟨g, 0, none⟩ = some (.int .u8 7) := by rw [hrow.cell]; rfl
  have D4 := hid (D3.out.chg (Chg.new hb4 NoFp) (fun _ _ h => h))
  have B4 := hid (B3.out.trans (hb4.mono B3.out.size))
  clear hrow hb4
  go_wp2_with (first
    | (go_at_call 42; refine (dSize_any _ d _ 5 _ D4.out).mono ?_; rintro e5 wx ⟨rfl, rfl⟩))
  go_ret
  exact ⟨rfl, B4.out⟩
end Go.Proofs.Ytgikaocimconlaa
