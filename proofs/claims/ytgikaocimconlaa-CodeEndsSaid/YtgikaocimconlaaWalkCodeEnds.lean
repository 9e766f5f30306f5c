/- triadlaw1.CodeEnds: the walk. -/
import Derived.Test.YtgikaocimconlaaLaw1
import Derived.Test.YtgikaocimconlaaArgs
import Derived.Test.YtgikaocimconlaaNumLe
import Derived.Deep.RegionHeld3
namespace Go.Proofs.Ytgikaocimconlaa
open Go.RowKit
set_option linter.unusedVariables false

/-- the bytes of numbers, each with its lowest byte behind it -/
def nine (z : Int) : List UInt8 := le (IntKind.u64.wrap z) 8 ++ le (IntKind.u64.wrap z) 1
def ends (l : List Int) : List UInt8 := l.flatMap nine
theorem nine_length (z : Int) : (nine z).length = 9 := by simp [nine]
theorem ends_length (l : List Int) : (ends l).length = 9 * l.length := by
  induction l with
  | nil => rfl
  | cons z r ih => simp only [ends, List.flatMap_cons, List.length_append, nine_length, List.length_cons] at *; omega
theorem ends_succ (zs : List Int) (k : Nat) (h : k < zs.length) : ends (zs.take (k + 1)) = ends (zs.take k) ++ le (IntKind.u64.wrap zs[k]) 8 ++ le (IntKind.u64.wrap zs[k]) 1 := by
  unfold ends
  rw [List.take_succ_eq_append_getElem h, List.flatMap_append]
  simp [nine]

theorem cell_chg {fp : Nat → Prop} {w w' : World} {g o : Nat} {v : Value} (hc : Chg fp w w') (hn : ¬ fp g) (h : w.cell? ⟨g, o, none⟩ = some v) : w'.cell? ⟨g, o, none⟩ = some v :=
  (World.cell?_of_block (w := w) (a := ⟨g, o, none⟩) (hc.block g (World.block_lt_of_cell? w _ h) hn)).trans h

theorem rInt_le (w : World) (r : Nat) (ob : Option Nat) (z : Int) (l : List UInt8) (hr : Rdr w r ob (le (IntKind.u64.wrap z) 8 ++ l) 0) (hl : l.length ≤ 1000) (h0 : -9223372036854775808 ≤ z) (h1 : z ≤ 9223372036854775807) :
    Calls Try.prog 19 #[.pointer (some ⟨r, 0, none⟩)] w fun en w' => en = .returned (.int .i64 z) ∧ Chg (fun k => k = r) w w' ∧ Rdr w' r ob l 0 := by
  have h := rInt_any r ob _ 0 w hr (by simp; omega) (by omega) (by omega)
  have g1 : tkGot (le (IntKind.u64.wrap z) 8 ++ l) 0 8 = le (IntKind.u64.wrap z) 8 := by simp [tkGot]; try (intro h; omega)
  have g2 : tkLeft (le (IntKind.u64.wrap z) 8 ++ l) 0 8 = l := by simp [tkLeft]; try (intro h; omega)
  have g3 : tkErr (le (IntKind.u64.wrap z) 8 ++ l) 0 8 = 0 := by simp [tkErr]
  rw [g1, g2, g3, num8 z h0 h1] at h
  exact h
theorem rByte_le (w : World) (r : Nat) (ob : Option Nat) (z : Int) (l : List UInt8) (hr : Rdr w r ob (le (IntKind.u64.wrap z) 1 ++ l) 0) (hl : l.length ≤ 1000) :
    Calls Try.prog 22 #[.pointer (some ⟨r, 0, none⟩)] w fun en w' => en = .returned (.int .i64 (z % 256)) ∧ Chg (fun k => k = r) w w' ∧ Rdr w' r ob l 0 := by
  have h := rByte_any r ob _ 0 w hr (by simp; omega) (by omega) (by omega)
  have g1 : tkGot (le (IntKind.u64.wrap z) 1 ++ l) 0 1 = le (IntKind.u64.wrap z) 1 := by simp [tkGot]; try (intro h; omega)
  have g2 : tkLeft (le (IntKind.u64.wrap z) 1 ++ l) 0 1 = l := by simp [tkLeft]; try (intro h; omega)
  have g3 : tkErr (le (IntKind.u64.wrap z) 1 ++ l) 0 1 = 0 := by simp [tkErr]
  rw [g1, g2, g3, num1 z] at h
  exact h

set_option maxRecDepth 100000 in
theorem codeEnds_walk (a0 : Int) (a1 : Int) (w : World) (w0 : (Lit.int .i64 a0).wf = true) (w1 : (Lit.int .i64 a1).wf = true) :
    Calls Try.prog 5 #[.int .i64 a0, .int .i64 a1] w fun e w' => e = .returned (.bool true) ∧ Below w.heap.size w w' := by
  have hb0 := i64_of_wf w0
  clear w0 w1
  go_enter Try.func5, Try.ntmps5
  go_wp2_with fail
  refine (known1_any _).mono ?_; rintro e1 w1 ⟨rfl, hb1⟩; have B1 := hid hb1; clear hb1
  go_wp2_with fail
  refine (within1_any _ _ _ (by omega) (by omega)).mono ?_; rintro e1 wx ⟨rfl, rfl⟩
  have m1 := Int.emod_nonneg a1 (show (62 : Int) ≠ 0 by omega); have m2 := Int.emod_lt_of_pos a1 (show (0 : Int) < 62 by omega); generalize a1 % 62 = y at m1 m2 ⊢
  go_wp2_with fail
  generalize hz5 : wrap64 (2 ^ y.toNat) = z5
  have hb5 : -9223372036854775808 ≤ z5 ∧ z5 ≤ 9223372036854775807 := by rw [← hz5]; unfold wrap64; omega
  clear hz5 m1 m2
  obtain ⟨zs, hzs, hzl, hzb⟩ : ∃ zs : List Int, zs = [a0, 9223372036854775807, -9223372036854775808, 0, -1, z5] ∧ zs.length = 6 ∧ ∀ z ∈ zs, -9223372036854775808 ≤ z ∧ z ≤ 9223372036854775807 := by
    refine ⟨_, rfl, rfl, ?_⟩
    intro z hz
    simp only [List.mem_cons, List.not_mem_nil, or_false] at hz
    rcases hz with rfl | rfl | rfl | rfl | rfl | rfl <;> omega
  have hcells : (#[Value.int IntKind.i64 a0, Value.int IntKind.i64 9223372036854775807, Value.int IntKind.i64 (-9223372036854775808), Value.int IntKind.i64 0, Value.int IntKind.i64 (-1), Value.int IntKind.i64 z5] : Array Value) = (zs.map (Value.int .i64)).toArray := by rw [hzs]; rfl
  rw [hcells]
  have hg := heap_alloc_new w1 (Obj.cells (zs.map (Value.int .i64)).toArray 3)
  have hbA : Below w.heap.size w (w1.alloc (Obj.cells (zs.map (Value.int .i64)).toArray 3)) := B1.out.alloc B1.out.size _
  have hcell : ∀ k (h : k < zs.length), (w1.alloc (Obj.cells (zs.map (Value.int .i64)).toArray 3)).cell? ⟨w1.heap.size, k, none⟩ = some (.int .i64 zs[k]) := by
    intro k h
    rw [cell_of_row _ _ _ _ _ _ hg]
    simp [h]
  have hgl : w1.heap.size < (w1.alloc (Obj.cells (zs.map (Value.int .i64)).toArray 3)).heap.size := by simp
  generalize (w1.alloc (Obj.cells (zs.map (Value.int .i64)).toArray 3)) = wA at hg hbA hcell hgl ⊢
  generalize w1.heap.size = g at hg hcell hgl ⊢
  have BA := hid hbA
  have HC := hid hcell
  have HZB := hid hzb
  have HZL := hid hzl
  clear hcells hzs hcell hzb hg hbA hb0 hb5
  go_loopw [7, 6] (fun i b wr => ∃ k : Nat, k ≤ 6 ∧ i = .int .i64 k ∧ (∃ p n c, b = .slice p n c ∧ Bs wr b (ends (zs.take k))) ∧ Below wA.heap.size wA wr) (fun i _ _ => 6 - (intOf i).toNat)
  case atStart => exact ⟨0, by omega, rfl, ⟨_, _, _, rfl, Rd.nil _ _⟩, Below.refl _ _⟩
  case round =>
    obtain ⟨k, hk, rfl, ⟨p, n, c, rfl, hbs⟩, hbw⟩ := hrel
    by_cases hlt : k < 6
    · have hk' : k < zs.length := by omega
      have hcz : wr.cell? ⟨g, k, none⟩ = some (.int .i64 zs[k]) := (hbw.cell (p := ⟨g, k, none⟩) hgl).trans (HC.out k hk')
      have hglr : g < wr.heap.size := Nat.lt_of_lt_of_le hgl hbw.size
      have HSU := hid (ends_succ zs k hk')
      have hlen : (ends (zs.take k)).length ≤ 60 := by rw [ends_length]; simp; omega
      obtain ⟨zz, hzz⟩ : ∃ zz, zs[k] = zz := ⟨_, rfl⟩
      rw [hzz] at hcz HSU
      clear hzz
      have HBW := hid hbw
      have HI := hid (fun wq (hq : Bs wq (.slice p n c) (ends (zs.take k))) => cInt_any (.slice p n c) (ends (zs.take k)) zz wq hq (by omega))
      have HBS := hid hbs
      clear hbw hbs
      have hk0 : (0 : Int) ≤ (k : Int) := by omega
      have hk6 : (k : Int) < (6 : Int) := by omega
      go_wp2_with fail
      go_region_held3 (fun w' => w'.cell? ⟨g, k, none⟩ = some (.int .i64 zz) ∧ g < w'.heap.size)
        (first
          | go_keep
          | exact ⟨(hb1.cell (p := ⟨g, k, none⟩) hglr).trans hcz, Nat.lt_of_lt_of_le hglr hb1.size⟩
          | exact ⟨(hb2.cell (p := ⟨g, k, none⟩) (Nat.lt_of_lt_of_le hglr hb1.size)).trans ((hb1.cell (p := ⟨g, k, none⟩) hglr).trans hcz), Nat.lt_of_lt_of_le (Nat.lt_of_lt_of_le hglr hb1.size) hb2.size⟩)
        (first
          | (go_at_call 21; refine Calls.mono (HI.out _ ?hq1) ?_; (case hq1 => exact HBS.out); rintro e1 w2 ⟨p1, n1, c1, rfl, hn1, hb1, ho1⟩; have HO1 := hid (Made.bs hn1 ho1); have HN1 := hid hn1; clear hn1 ho1)
          | (go_at_call 20; refine (cByte_any _ _ zz _ HO1.out (by simp; omega)).mono ?_; rintro e2 w3 ⟨p2, n2, c2, rfl, hn2, hb2, ho2⟩; have HO2 := hid (Made.bs hn2 ho2); clear hn2 ho2))
      go_wp2
      go_roundw
      case rel =>
        refine ⟨k + 1, by omega, by go_num, ⟨_, _, _, rfl, ?_⟩, ?_⟩
        · rw [HSU.out]; exact HO2.out
        · have h1 : Below wA.heap.size wA w2 := HBW.out.trans ((show Below wr.heap.size wr w2 from ⟨hb1.os, hb1.tape, hb1.output, hb1.size, hb1.block⟩).mono HBW.out.size)
          exact h1.trans (hb2.mono h1.size)
      case measure => simp [intOf]; omega
    · obtain rfl : k = 6 := by omega
      have hE : zs.take 6 = zs := List.take_of_length_le (by omega)
      rw [hE] at hbs
      have hEl : (ends zs).length = 54 := by rw [ends_length, hzl]
      have hn : n = 54 := by obtain ⟨_, _, _, he, _⟩ := hbs; cases he; exact hEl
      subst hn
      have HEL := hid hEl
      have HBS := hid hbs
      have HBW := hid hbw
      clear hE hEl hbs hbw
      go_wp2_with fail
      refine (New_any _ _ _ HBS.out (by rw [HEL.out]; omega)).mono ?_; rintro e1 w4 ⟨r, rfl, hb4, hr1, ob, hob, hr⟩; have B4 := hid (HBW.out.trans (hb4.mono HBW.out.size)); have R1 := hid (Nat.le_trans HBW.out.size hr1); have R4 := hid hr; clear hb4 hr1 hob hr HBS HBW
      go_wp2_with fail
      go_loopw [9] (fun i wr => ∃ k : Nat, k ≤ 6 ∧ i = .int .i64 k ∧ Rdr wr r ob (ends (zs.drop k)) 0 ∧ Below wA.heap.size wA wr) (fun i _ => 6 - (intOf i).toNat)
      case atStart => exact ⟨0, by omega, rfl, R4.out, B4.out⟩
      case round =>
        obtain ⟨k, hk, rfl, hr, hbw⟩ := hrel
        by_cases hlt : k < 6
        · have hk' : k < zs.length := by omega
          have hcz : wr.cell? ⟨g, k, none⟩ = some (.int .i64 zs[k]) := (hbw.cell (p := ⟨g, k, none⟩) hgl).trans (HC.out k hk')
          have hE : ends (zs.drop k) = le (IntKind.u64.wrap zs[k]) 8 ++ (le (IntKind.u64.wrap zs[k]) 1 ++ ends (zs.drop (k + 1))) := by
            rw [List.drop_eq_getElem_cons hk']; unfold ends; rw [List.flatMap_cons]; unfold nine; rw [List.append_assoc]
          obtain ⟨hz1, hz2⟩ := HZB.out _ (List.getElem_mem hk')
          have hlen : (ends (zs.drop (k + 1))).length ≤ 60 := by rw [ends_length]; simp; omega
          rw [hE] at hr
          obtain ⟨zz, hzz⟩ : ∃ zz, zs[k] = zz := ⟨_, rfl⟩
          rw [hzz] at hcz hr hz1 hz2
          clear hzz hE
          have hand := and255 zz hz1 hz2
          have HI := hid (fun wq hq => rInt_le wq r ob zz (le (IntKind.u64.wrap zz) 1 ++ ends (zs.drop (k + 1))) hq (by simp; omega) hz1 hz2)
          have HBy := hid (fun wq hq => rByte_le wq r ob zz (ends (zs.drop (k + 1))) hq (by omega))
          have hgr : ¬ g = r := by have := R1.out; omega
          have HR := hid hr
          have HBW := hid hbw
          clear hr hbw
          have hk0 : (0 : Int) ≤ (k : Int) := by omega
          have hk6 : (k : Int) < (6 : Int) := by omega
          go_wp2_with fail
          go_region_held3 (fun w' => w'.cell? ⟨g, k, none⟩ = some (.int .i64 zz))
            (first
              | go_keep
              | exact cell_chg hc5 hgr hcz
              | exact cell_chg hc6 hgr (cell_chg hc5 hgr hcz))
            (first
              | (go_at_call 19; refine Calls.mono (HI.out _ ?hq1) ?_; (case hq1 => exact HR.out); rintro e1 w5 ⟨rfl, hc5, hr5⟩; have HR5 := hid hr5)
              | (go_at_call 22; refine Calls.mono (HBy.out _ ?hq2) ?_; (case hq2 => exact HR5.out); rintro e2 w6 ⟨rfl, hc6, hr6⟩; have HR6 := hid hr6))
          go_wp2
          go_roundw
          case rel =>
            refine ⟨k + 1, by omega, by go_num, HR6.out, ?_⟩
            have h1 : Chg (fun k => k = r) wr w6 := (show Chg (fun k => k = r) wr w5 from ⟨hc5.os, hc5.tape, hc5.output, hc5.size, hc5.block⟩).trans hc6 (fun _ _ h => h)
            exact HBW.out.trans (h1.below (B := wA.heap.size) (fun q hq => by rw [hq]; exact R1.out) HBW.out.size)
          case measure => simp [intOf]; omega
        · obtain rfl : k = 6 := by omega
          have hE : ends (zs.drop 6) = [] := by rw [List.drop_of_length_le (by omega)]; rfl
          rw [hE] at hr
          have HR := hid hr
          have HBW := hid hbw
          clear hE hr hbw
          go_wp2_with fail
          refine (rEnd_any r ob [] 0 _ HR.out (by simp)).mono ?_; rintro e1 wx ⟨rfl, rfl⟩
          go_wp2_with fail
          go_ret
          exact ⟨rfl, BA.out.trans (HBW.out.mono BA.out.size)⟩
end Go.Proofs.Ytgikaocimconlaa
