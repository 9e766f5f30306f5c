/- triadlaw2.DiskStops: the walk. -/
import Derived.Test.YtgikaocimconlaaLaw2
import Derived.Test.YtgikaocimconlaaArgs2
namespace Go.Proofs.Ytgikaocimconlaa
open Go.RowKit
set_option linter.unusedVariables false

/-- a disk of three that stops at the n-th step, behind k steps -/
structure St (n k : Nat) (s : DS) : Prop where
  ops : s.ops = min (k : Int) (n : Int)
  stop : s.stop = max ((n : Int) - k) 0
  dead : s.dead = decide (n ≤ k)

theorem St.step {n k : Nat} {s : DS} (hn : 1 ≤ n) (h : St n k s) (hk : k < n) : St n (k + 1) (dStep s) ∧ dStepGone s = decide (n ≤ k + 1) := by
  have h1 := h.stop
  have h2 := h.ops
  have h3 : ¬ s.stop < 1 := by omega
  unfold dStep dStepGone
  rw [if_neg h3, if_neg h3]
  refine ⟨⟨?_, ?_, ?_⟩, ?_⟩
  · show s.ops + 1 = _
    omega
  · show s.stop - 1 = _
    omega
  · show (s.stop - 1 == 0) = _
    rw [Bool.eq_iff_iff]; simp; omega
  · show (s.stop - 1 == 0) = _
    rw [Bool.eq_iff_iff]; simp; omega

theorem St.sync {n k : Nat} {s : DS} (hn : 1 ≤ n) (h : St n k s) : St n (k + 1) (dSync s).1 ∧ (dSync s).2 = if n ≤ k + 1 then 13 else 0 := by
  unfold dSync
  by_cases hk : k < n
  · obtain ⟨h1, h2⟩ := h.step hn hk
    rw [if_neg (by rw [h.dead]; simp; omega), h2]
    by_cases hl : n ≤ k + 1
    · rw [if_pos (by simpa using hl), if_pos hl]; exact ⟨h1, rfl⟩
    · rw [if_neg (by simpa using hl), if_neg hl]; exact ⟨⟨h1.ops, h1.stop, h1.dead⟩, rfl⟩
  · rw [if_pos (by rw [h.dead]; simp; omega), if_pos (by omega)]
    exact ⟨⟨by have := h.ops; show s.ops = _; omega, by have := h.stop; show s.stop = _; omega, by show s.dead = _; rw [h.dead]; simp; omega⟩, rfl⟩

theorem St.write {n k : Nat} {s : DS} {l : List UInt8} (hn : 1 ≤ n) (hl : l.length ≤ 512) (h : St n k s) : St n (k + 1) (dWrite 3 s 1 l).1 ∧ (dWrite 3 s 1 l).2 = if n ≤ k + 1 then 13 else 0 := by
  unfold dWrite
  by_cases hk : k < n
  · have hs : St n k (dWritten s 1 l) := ⟨h.ops, h.stop, h.dead⟩
    obtain ⟨h1, h2⟩ := hs.step hn hk
    have h2' : dStepGone s = decide (n ≤ k + 1) := h2
    rw [if_neg (by rw [h.dead]; simp; omega), if_neg (by omega), h2']
    by_cases hl : n ≤ k + 1
    · rw [if_pos (by simpa using hl), if_pos hl]; exact ⟨h1, rfl⟩
    · rw [if_neg (by simpa using hl), if_neg hl]; exact ⟨h1, rfl⟩
  · rw [if_pos (by rw [h.dead]; simp; omega), if_pos (by omega)]
    exact ⟨⟨by have := h.ops; show s.ops = _; omega, by have := h.stop; show s.stop = _; omega, by show s.dead = _; rw [h.dead]; simp; omega⟩, rfl⟩

/-- how a disk is where the loop is -/
def StopAt (B : Nat) (d n k : Nat) (w wr : World) : Prop := ∃ fp s, Dsk wr d fp 3 s ∧ (∀ q, fp q → B ≤ q) ∧ St n k s ∧ Below B w wr ∧ B ≤ w.heap.size

theorem StopAt.to {B d n k' : Nat} {w wr w' : World} {fp : Nat → Prop} {s' : DS} (hf : ∀ q, fp q → B ≤ q) (hb : Below B w wr) (hB : B ≤ w.heap.size) (h : DskTo wr d fp 3 s' w') (hs : St n k' s') : StopAt B d n k' w w' := by
  obtain ⟨fp', h1, h2, h3⟩ := h
  have := hb.size
  exact ⟨fp', s', h1, fun q hq => (h3 q hq).elim (hf q) (fun h => by omega), hs, hb.trans (h2.below hf (by omega)), hB⟩

set_option maxRecDepth 100000 in
set_option maxHeartbeats 1600000 in
theorem diskStops_walk (a0 : Int) (a1 : Option Addr) (len1 cap1 : Nat) (z1 : List Bool) (w : World) (w0 : (Lit.int .i64 a0).wf = true) (w1 : IsBools w a1 len1 cap1 z1) :
    Calls Try.prog 12 #[.int .i64 a0, .slice a1 len1 cap1] w fun e w' => e = .returned (.bool true) ∧ Below w.heap.size w w' := by
  obtain ⟨hlen, hrd⟩ := w1
  have HASK : Hid (∀ k, k < len1 → ∃ ab ao b, a1 = some ⟨ab, ao, none⟩ ∧ w.cell? ⟨ab, ao + k, none⟩ = some (.bool b) ∧ ab < w.heap.size) := hid (fun k hk => by
    obtain ⟨ab, ao, rfl, hc⟩ := hrd.addr (by omega)
    have h1 := hc k (.bool (z1[k]'(by omega))) (by rw [List.getElem?_map, List.getElem?_eq_getElem (by omega)]; rfl)
    exact ⟨ab, ao, _, rfl, h1, World.block_lt_of_cell? w ⟨ab, ao + k, none⟩ h1⟩)
  clear w0 hrd hlen z1
  go_enter Try.func12, Try.ntmps12
  go_wp2_with fail
  refine (known2_any _).mono ?_; rintro e1 w1 ⟨rfl, hb1⟩; have B1 := hid hb1; clear hb1
  go_wp2_with fail
  refine (within2_any _ _ _ (by omega) (by omega)).mono ?_; rintro e1 wx ⟨rfl, rfl⟩
  have m1 := Int.emod_nonneg a0 (show (12 : Int) ≠ 0 by omega); have m2 := Int.emod_lt_of_pos a0 (show (0 : Int) < 12 by omega); generalize a0 % 12 = x at m1 m2 ⊢
  go_wp2_with fail
  obtain ⟨n, hn, hn1, hn2⟩ : ∃ n : Nat, 1 + x = (n : Int) ∧ 1 ≤ n ∧ n ≤ 12 := ⟨(1 + x).toNat, by omega, by omega, by omega⟩
  rw [hn]; clear hn m1 m2
  refine (dNew_any _ _).mono ?_; rintro e1 w2 ⟨d, rfl, hd, hb2, hl⟩
  rw [show clampN 3 = 3 from by decide] at hd
  have D1 := hid hd; have B2 := hid (B1.out.trans (hb2.mono B1.out.size))
  clear hd hb2
  go_wp2_with fail
  refine (dStop_any _ d _ 3 _ (n : Int) D1.out (by omega)).mono ?_; rintro e1 w3 ⟨rfl, hd, hc, hs⟩
  have B3 := hid (B2.out.trans (hc.below (fun k h => Nat.le_trans B1.out.size h.1) B2.out.size))
  have SA : Hid (StopAt w.heap.size d n 0 w w3) := hid ⟨_, _, hd, (fun k h => Nat.le_trans B1.out.size h.1), ⟨(by show (0 : Int) = _; omega), (by show max (n : Int) 0 = _; omega), (by show false = _; simp; omega)⟩, B3.out, Nat.le_refl _⟩
  clear hd hc hs D1 B2 B1 B3
  go_wp2_with fail
  go_loopw [6] (fun i wr => ∃ k : Nat, k ≤ 20 ∧ k ≤ len1 ∧ i = .int .i64 k ∧ StopAt w.heap.size d n k w wr) (fun i _ => 21 - (intOf i).toNat)
  case atStart => exact ⟨0, by omega, by omega, rfl, SA.out⟩
  case round =>
    obtain ⟨k, hk, hk1, rfl, hat⟩ := hrel
    have SB0 := hid hat
    clear SA hat
    by_cases hlt : k < len1 ∧ k < 20
    · obtain ⟨hlt1, hlt2⟩ := hlt
      obtain ⟨ab, ao, b, rfl, hcz, hab⟩ := HASK.out k hlt1
      obtain ⟨fp, s, hd, hf, hs, hb, _⟩ := SB0.out
      have hcz2 : wr.cell? ⟨ab, ao + k, none⟩ = some (.bool b) := (hb.cell (p := ⟨ab, ao + k, none⟩) hab).trans hcz
      have hops : s.ops ≤ 1000000 := by have := hs.ops; omega
      have D0 := hid hd
      have S0 := hid (And.intro hs (And.intro hb hf))
      have HO := hid hops
      clear hd hf hs hb hcz hops SB0
      cases b with
      | true =>
        go_wp2_with fail
        refine (dSync_any _ d fp 3 s D0.out HO.out).mono ?_; rintro e1 w5 ⟨rfl, hd5, hc5, hz5⟩
        have SB : Hid (StopAt w.heap.size d n (k + 1) w w5) := hid (StopAt.to S0.out.2.2 S0.out.2.1 (Nat.le_refl _) ⟨fp, hd5, hc5, fun _ h => .inl h⟩ (S0.out.1.sync hn1).1)
        rw [(S0.out.1.sync hn1).2]
        clear hd5 hc5 hz5 D0 S0 HO
        by_cases hph : n ≤ k + 1
        · rw [if_pos hph]
          obtain ⟨fp3, s3, hd3, hf3, hs3, hb3, _⟩ := SB.out
          have ho3 := hs3.ops
          have hdd : s3.dead = true := by rw [hs3.dead]; simp; omega
          have HDE := hid (dDead_any w5 d fp3 3 s3 hd3)
          have HOP := hid (dOps_any w5 d fp3 3 s3 hd3)
          rw [hdd] at HDE
          rw [ho3] at HOP
          have D3 := hid hd3
          have S3 := hid (And.intro hs3 (And.intro hb3 hf3))
          have hcast : ((k + 1 : Nat) : Int) = (k : Int) + 1 := by omega
          rw [hcast] at HOP
          clear hd3 hf3 hs3 hb3 ho3 hcast
          go_wp2_with (first
            | (go_at_call 45; refine HDE.out.mono ?_; rintro e1 wx ⟨rfl, rfl⟩)
            | (go_at_call 35; refine HOP.out.mono ?_; rintro e1 wx ⟨rfl, rfl⟩))
          have hR := dRead_err w5 d fp3 3 s3 0 D3.out (.inl hdd)
          rw [if_pos hdd] at hR
          refine hR.mono ?_; rintro e1 w6 ⟨rfl, hw⟩
          have S6 : Hid (StopAt w.heap.size d n (k + 1) w w6) := hid (hw ▸ SB.out)
          have HDE6 := hid (dDead_any w6 d fp3 3 s3 (hw ▸ D3.out))
          rw [hdd] at HDE6
          clear hdd S3 D3 HDE HOP SB
          go_wp2_with (go_at_call 45; refine HDE6.out.mono ?_; rintro e1 wx ⟨rfl, rfl⟩)
          go_roundw
          case rel => exact ⟨k + 1, by omega, by omega, by go_num, S6.out⟩
          case measure => simp [intOf]; omega
        · rw [if_neg hph]
          obtain ⟨fp3, s3, hd3, hf3, hs3, hb3, _⟩ := SB.out
          have ho3 := hs3.ops
          have hdd : s3.dead = false := by rw [hs3.dead]; simp; omega
          have HDE := hid (dDead_any w5 d fp3 3 s3 hd3)
          have HOP := hid (dOps_any w5 d fp3 3 s3 hd3)
          rw [hdd] at HDE
          rw [ho3] at HOP
          have D3 := hid hd3
          have S3 := hid (And.intro hs3 (And.intro hb3 hf3))
          have hcast : ((k + 1 : Nat) : Int) = (k : Int) + 1 := by omega
          rw [hcast] at HOP
          clear hd3 hf3 hs3 hb3 ho3 hcast
          go_wp2_with (first
            | (go_at_call 45; refine HDE.out.mono ?_; rintro e1 wx ⟨rfl, rfl⟩)
            | (go_at_call 35; refine HOP.out.mono ?_; rintro e1 wx ⟨rfl, rfl⟩))
          refine (dRead_ok w5 d fp3 3 s3 0 D3.out hdd (by omega)).mono ?_; rintro e1 w6 ⟨g, rfl, hg, hrow, hb6⟩
          have hd6 := D3.out.chg (Chg.new hb6 NoFp) (fun _ _ h => h)
          have S6 : Hid (StopAt w.heap.size d n (k + 1) w w6) := hid ⟨fp3, s3, hd6, S3.out.2.2, S3.out.1, S3.out.2.1.trans (hb6.mono S3.out.2.1.size), Nat.le_refl _⟩
          have HDE6 := hid (dDead_any w6 d fp3 3 s3 hd6)
          clear hrow hb6 hd6
          rw [hdd] at HDE6
          clear hdd S3 D3 HDE HOP SB
          go_wp2_with (go_at_call 45; refine HDE6.out.mono ?_; rintro e1 wx ⟨rfl, rfl⟩)
          go_roundw
          case rel => exact ⟨k + 1, by omega, by omega, by go_num, S6.out⟩
          case measure => simp [intOf]; omega
      | false =>
        go_wp2_with fail
        have hbs : bv [UInt8.ofNat k] = [Value.int .u8 (k : Int)] := by simp only [bv, List.map_cons, List.map_nil]; exact congrArg (fun z => [Value.int .u8 z]) (by simp; omega)
        have hD := D0.out.chg (Chg.alloc NoFp wr (.cells #[Value.int .u8 (k : Int)] 5)) (fun _ _ h => h)
        have hB := S0.out.2.1.alloc S0.out.2.1.size (.cells #[Value.int .u8 (k : Int)] 5)
        refine (dWrite_any _ d fp 3 s 1 _ [UInt8.ofNat k] hD (by unfold Bs; rw [hbs]; exact Rd.fresh1 _ _ _) (by simp) HO.out).mono ?_; rintro e1 w5 ⟨rfl, hd5⟩
        have SB : Hid (StopAt w.heap.size d n (k + 1) w w5) := hid (StopAt.to S0.out.2.2 hB (Nat.le_refl _) hd5 (S0.out.1.write hn1 (by simp)).1)
        rw [(S0.out.1.write hn1 (by simp)).2]
        clear hd5 hD hB hbs D0 S0 HO
        by_cases hph : n ≤ k + 1
        · rw [if_pos hph]
          obtain ⟨fp3, s3, hd3, hf3, hs3, hb3, _⟩ := SB.out
          have ho3 := hs3.ops
          have hdd : s3.dead = true := by rw [hs3.dead]; simp; omega
          have HDE := hid (dDead_any w5 d fp3 3 s3 hd3)
          have HOP := hid (dOps_any w5 d fp3 3 s3 hd3)
          rw [hdd] at HDE
          rw [ho3] at HOP
          have D3 := hid hd3
          have S3 := hid (And.intro hs3 (And.intro hb3 hf3))
          have hcast : ((k + 1 : Nat) : Int) = (k : Int) + 1 := by omega
          rw [hcast] at HOP
          clear hd3 hf3 hs3 hb3 ho3 hcast
          go_wp2_with (first
            | (go_at_call 45; refine HDE.out.mono ?_; rintro e1 wx ⟨rfl, rfl⟩)
            | (go_at_call 35; refine HOP.out.mono ?_; rintro e1 wx ⟨rfl, rfl⟩))
          have hR := dRead_err w5 d fp3 3 s3 0 D3.out (.inl hdd)
          rw [if_pos hdd] at hR
          refine hR.mono ?_; rintro e1 w6 ⟨rfl, hw⟩
          have S6 : Hid (StopAt w.heap.size d n (k + 1) w w6) := hid (hw ▸ SB.out)
          have HDE6 := hid (dDead_any w6 d fp3 3 s3 (hw ▸ D3.out))
          rw [hdd] at HDE6
          clear hdd S3 D3 HDE HOP SB
          go_wp2_with (go_at_call 45; refine HDE6.out.mono ?_; rintro e1 wx ⟨rfl, rfl⟩)
          go_roundw
          case rel => exact ⟨k + 1, by omega, by omega, by go_num, S6.out⟩
          case measure => simp [intOf]; omega
        · rw [if_neg hph]
          obtain ⟨fp3, s3, hd3, hf3, hs3, hb3, _⟩ := SB.out
          have ho3 := hs3.ops
          have hdd : s3.dead = false := by rw [hs3.dead]; simp; omega
          have HDE := hid (dDead_any w5 d fp3 3 s3 hd3)
          have HOP := hid (dOps_any w5 d fp3 3 s3 hd3)
          rw [hdd] at HDE
          rw [ho3] at HOP
          have D3 := hid hd3
          have S3 := hid (And.intro hs3 (And.intro hb3 hf3))
          have hcast : ((k + 1 : Nat) : Int) = (k : Int) + 1 := by omega
          rw [hcast] at HOP
          clear hd3 hf3 hs3 hb3 ho3 hcast
          go_wp2_with (first
            | (go_at_call 45; refine HDE.out.mono ?_; rintro e1 wx ⟨rfl, rfl⟩)
            | (go_at_call 35; refine HOP.out.mono ?_; rintro e1 wx ⟨rfl, rfl⟩))
          refine (dRead_ok w5 d fp3 3 s3 0 D3.out hdd (by omega)).mono ?_; rintro e1 w6 ⟨g, rfl, hg, hrow, hb6⟩
          have hd6 := D3.out.chg (Chg.new hb6 NoFp) (fun _ _ h => h)
          have S6 : Hid (StopAt w.heap.size d n (k + 1) w w6) := hid ⟨fp3, s3, hd6, S3.out.2.2, S3.out.1, S3.out.2.1.trans (hb6.mono S3.out.2.1.size), Nat.le_refl _⟩
          have HDE6 := hid (dDead_any w6 d fp3 3 s3 hd6)
          clear hrow hb6 hd6
          rw [hdd] at HDE6
          clear hdd S3 D3 HDE HOP SB
          go_wp2_with (go_at_call 45; refine HDE6.out.mono ?_; rintro e1 wx ⟨rfl, rfl⟩)
          go_roundw
          case rel => exact ⟨k + 1, by omega, by omega, by go_num, S6.out⟩
          case measure => simp [intOf]; omega
    · have hnl : ¬ ((k : Int) < (len1 : Int) ∧ (k : Int) < 20) := by omega
      obtain ⟨fp, s, hd, hf, hs, hb, _⟩ := SB0.out
      have D0 := hid hd
      have S0 := hid (And.intro hs (And.intro hb hf))
      clear hd hf hs hb SB0
      go_wp2_with fail
      all_goals (
        refine (dCrash_any _ d fp 3 s _ [] D0.out (Rd.nil _ _) (fun g hg => by cases hg) (by simp)).mono ?_
        rintro e1 w5 ⟨rfl, hd5, hc5⟩
        have B5 := hid (S0.out.2.1.trans (hc5.below S0.out.2.2 S0.out.2.1.size))
        have HDE := hid (dDead_any w5 d fp 3 _ hd5)
        have hsy := dSync_any w5 d fp 3 _ hd5 (by have := S0.out.1.ops; show s.ops ≤ 1000000; omega)
        have e2 : (dSync (dCrash s [])).2 = 0 := by
          unfold dSync
          rw [if_neg (by show ¬ false = true; simp), dStepGone_calm (by show (0 : Int) < 1; omega)]
          rfl
        rw [e2] at hsy
        have HSY := hid hsy
        clear hd5 hc5 hsy e2
        go_wp2_with (first
          | (go_at_call 45; refine HDE.out.mono ?_; rintro e1 wx ⟨rfl, rfl⟩)
          | (go_at_call 36; refine HSY.out.mono ?_; rintro e1 w6 ⟨rfl, hd6, hc6, hz6⟩; have B6 := hid (B5.out.trans (hc6.below S0.out.2.2 B5.out.size)); clear hd6 hc6 hz6))
        go_ret
        exact ⟨rfl, B6.out⟩)
end Go.Proofs.Ytgikaocimconlaa
