/- redo.Recover. -/
import Derived.Test.YtplahohlmiphoaaPuts
namespace Go.Proofs.Ytplahohlmiphoaa
open Go.RowKit
set_option linter.unusedVariables false

def logRow (F : List UInt8) (i : Nat) : Int × List UInt8 := (wrap64 (num ((row F (1 + i)).take 8) : Int), (row F (1 + i)).drop 8)
def logOf (F : List UInt8) (m : Nat) : List (Int × List UInt8) := (List.range m).map (logRow F)
theorem logOf_length (F : List UInt8) (m : Nat) : (logOf F m).length = m := by simp [logOf]
theorem logOf_succ (F : List UInt8) (m : Nat) : logOf F (m + 1) = logOf F m ++ [logRow F m] := by simp [logOf, List.range_succ]
theorem logOf_get {F : List UInt8} {m i : Nat} (h : i < m) : (logOf F m)[i]? = some (logRow F i) := by simp [logOf, h]
def homesOk (n : Nat) (ls : List (Int × List UInt8)) : Bool := ls.all fun q => decide (401 ≤ q.1 ∧ q.1 < (n : Int))

def recov (n : Nat) (s : DS) : DS × Int × Int :=
  if s.dead = true then (s, 0, 13) else
    if cntOf n (row s.now 0) = 0 then (s, 0, 0) else
      if homesOk n (logOf s.now (cntOf n (row s.now 0)).toNat) = true then
        if (runStps n s (finSteps (logOf s.now (cntOf n (row s.now 0)).toNat))).2 = 0 then
          ((runStps n s (finSteps (logOf s.now (cntOf n (row s.now 0)).toNat))).1, cntOf n (row s.now 0), 0)
        else ((runStps n s (finSteps (logOf s.now (cntOf n (row s.now 0)).toNat))).1, 0, (runStps n s (finSteps (logOf s.now (cntOf n (row s.now 0)).toNat))).2)
      else (s, 0, 9)

theorem cntOf_bd (n : Nat) (b : List UInt8) : cntOf n b = 0 ∨ (1 ≤ cntOf n b ∧ cntOf n b ≤ 400 ∧ cntOf n b < (n : Int)) := by
  unfold cntOf
  split
  · exact .inr ⟨by omega, by omega, by omega⟩
  · exact .inl rfl

theorem bs_part {w : World} {g lo hi c : Nat} {R : List UInt8} (h : Blk w g (bv R) 5) (hR : R.length = 512) (h1 : lo + hi ≤ 512) (h2 : hi ≤ c) (h3 : c ≤ 512) :
    Bs w (.slice (some ⟨g, lo, none⟩) hi c) ((R.drop lo).take hi) := by
  have h9 := Rd.blk (off := lo) (n := hi) (c := c) (size := 1) h h2 (by simp only [maxLen]; omega) (by simp [hR]; omega)
  rw [Nat.mul_one, bv_drop, bv_take] at h9
  unfold Bs
  rw [show ((R.drop lo).take hi).length = hi by simp [hR]; omega]
  exact h9

set_option maxRecDepth 100000 in
set_option maxHeartbeats 4000000 in
theorem recov_any (w : World) (d : Nat) (fp : Nat → Prop) (n : Nat) (s : DS) (h : Dsk w d fp n s) (ho : s.ops + 3000 ≤ 1000000) :
    Calls Try.prog 25 #[.pointer (some ⟨d, 0, none⟩)] w fun e w' => e = .returned (.tuple #[.int .i64 (recov n s).2.1, .int .i64 (recov n s).2.2]) ∧ DskTo w d fp n (recov n s).1 w' := by
  have H := hid h
  have HC := hid (count_any w d fp n s h)
  clear h
  rcases Bool.eq_false_or_eq_true s.dead with hdead | hdead
  · have HE : Hid (recov n s = (s, 0, 13)) := hid (by unfold recov; rw [if_pos hdead])
    have h9 := HC.out
    rw [if_pos hdead, if_pos hdead] at h9
    have HC9 := hid h9
    clear h9 HC hdead
    go_enter Try.func25, Try.ntmps25
    go_wp2_with fail
    refine HC9.out.mono ?_
    rintro e1 w1 ⟨rfl, hb1⟩
    have B1 := hid hb1
    clear hb1
    go_wp2_with fail
    go_ret2
    rw [HE.out]
    exact ⟨rfl, fp, H.out.chg (Chg.new B1.out NoFp) (fun _ _ h => h), Chg.new B1.out fp, fun k h => .inl h⟩
  · have hnd : ¬ s.dead = true := by rw [hdead]; decide
    have HDD := hid hdead
    have h9 := HC.out
    rw [if_neg hnd, if_neg hnd] at h9
    have HC9 := hid h9
    have hcb := cntOf_bd n (row s.now 0)
    have HE0 : Hid (∀ N, cntOf n (row s.now 0) = N → recov n s = if N = 0 then (s, 0, 0) else
      if homesOk n (logOf s.now N.toNat) = true then
        if (runStps n s (finSteps (logOf s.now N.toNat))).2 = 0 then ((runStps n s (finSteps (logOf s.now N.toNat))).1, N, 0)
        else ((runStps n s (finSteps (logOf s.now N.toNat))).1, 0, (runStps n s (finSteps (logOf s.now N.toNat))).2)
      else (s, 0, 9)) := hid (fun N hN => by subst hN; unfold recov; rw [if_neg hnd])
    clear h9 HC hdead hnd
    generalize hN : cntOf n (row s.now 0) = N at *
    have HE := hid (HE0.out N rfl)
    clear hN HE0
    by_cases h0 : N = 0
    · have HE1 : Hid (recov n s = (s, 0, 0)) := hid (by rw [HE.out, if_pos h0])
      subst h0
      clear hcb
      go_enter Try.func25, Try.ntmps25
      go_wp2_with fail
      refine HC9.out.mono ?_
      rintro e1 w1 ⟨rfl, hb1⟩
      have B1 := hid hb1
      clear hb1
      go_wp2_with fail
      go_ret2
      rw [HE1.out]
      exact ⟨rfl, fp, H.out.chg (Chg.new B1.out NoFp) (fun _ _ h => h), Chg.new B1.out fp, fun k h => .inl h⟩
    · obtain ⟨m, rfl⟩ : ∃ m : Nat, N = (m : Int) := ⟨N.toNat, by omega⟩
      have hm0 : ((m : Int) == 0) = false := by simpa using h0
      have hmn : m < n ∧ m ≤ 400 ∧ 1 ≤ m := by omega
      have HE1 := hid HE.out
      rw [if_neg h0, Int.toNat_natCast] at HE1
      clear HE h0 hcb
      obtain ⟨hmn1, hmn2, hmn3⟩ := hmn
      go_enter Try.func25, Try.ntmps25
      go_wp2_with fail
      refine HC9.out.mono ?_
      rintro e1 w1 ⟨rfl, hb1⟩
      have B1 := hid hb1
      have D1 := hid (H.out.chg (Chg.new hb1 NoFp) (fun _ _ h => h))
      clear hb1 HC9
      go_wp2_with fail
      have P0 : Hid (PutsAt w.heap.size (fun g => w.heap.size ≤ g) (logOf s.now 0) [] w w1 (.slice none 0 0)) := hid (PutsAt.start B1.out B1.out.size)
      go_loopw [6, 26] (fun v i wr => ∃ (j : Nat) (bs : List Value), j ≤ m ∧ i = .int .i64 j ∧ PutsAt w.heap.size (fun g => w.heap.size ≤ g) (logOf s.now j) bs w wr v) (fun _ i _ => m + 1 - (intOf i).toNat)
      case atStart => exact ⟨0, [], Nat.zero_le _, rfl, P0.out⟩
      case round =>
        obtain ⟨j, bs, hj, rfl, hat⟩ := hrel
        have PA := hid hat
        obtain ⟨sp, sc, hsh⟩ := hat.shape
        rw [logOf_length] at hsh
        subst hsh
        clear hat P0
        by_cases hlt : j < m
        · have hwj : IntKind.i64.wrap (1 + (j : Int)) = 1 + (j : Int) := by simp [IntKind.wrap, IntKind.bits, IntKind.signed]; omega
          go_wp2_with fail
          have hrd := dRead_ok wr d fp n s (1 + j) (H.out.chg (Chg.new PA.out.2.2.2.1 NoFp) (fun _ _ h => h)) HDD.out (by omega)
          rw [show (((1 + j : Nat) : Int)) = 1 + (j : Int) by omega] at hrd
          refine hrd.mono ?_
          rintro e1 w2 ⟨g, rfl, hg, hblk, hb2⟩
          have HL := hid (row_length H.out.ok.now (show 1 + j < n by omega))
          have P2 := hid (PA.out.new hb2)
          have BK := hid hblk
          have G2 := hid hg
          have B2 := hid hb2
          clear hrd hg hblk hb2
          go_wp2_with fail
          refine wp_region_plan (fun w' => True) (fun j => !([3, 4, 8, 9, 10].contains j)) (fun j => [9, 10].contains j)
            (.of [0, 1, 2, 5, 6, 3, 4, 7, 8, 9, 10]) (by kernel_rfl) (by kernel_rfl) rfl (by kernel_rfl) (by kernel_rfl) trivial ?_
          iterate 5 (apply wpPlan_val; (case ho => rfl); (case hst => rfl); (case hw => rfl); (case hv => intro w' hS; go_simp; first | done | rfl); intro K hK; go_simp; refine hK _ ?_; clear hK K)
          have hbd : Below w2.heap.size w2 w2.drew := below_drewN (Below.refl _ _) 1
          have BD := hid hbd
          have P3 := hid (P2.out.new hbd)
          have K3 := hid (BK.out.chg (Chg.new hbd NoFp) (fun h => h))
          clear hbd
          refine wpPlan_list rfl rfl rfl (fun K hK => ?_)
          refine wpList_step (fun K2 hK2 => ?_)
          go_simp
          refine (New_any _ _ w2.drew (bs_part (lo := 0) (hi := 8) (c := 512) K3.out HL.out (by omega) (by omega) (by omega)) (by simp; omega)).mono ?_
          rintro e1 w3 ⟨r, rfl, hb3, hr3, ob, hob, hrdr⟩
          have P4 := hid (P3.out.new hb3)
          have K4 := hid (K3.out.chg (Chg.new hb3 NoFp) (fun h => h))
          have B3 := hid (BD.out.trans (hb3.mono BD.out.size))
          have RD := hid hrdr
          have R3 : Hid (w2.heap.size ≤ r) := hid hr3
          clear hb3 hr3 hob hrdr
          go_simp
          refine hK2 _ _ ?_
          clear hK2 K2
          simp only [wpList]
          refine hK _ _ (fun _ => trivial) ?_
          clear hK K
          refine wpPlan_list rfl rfl rfl (fun K hK => ?_)
          refine wpList_step (fun K2 hK2 => ?_)
          go_simp
          refine (rInt_any r ob _ 0 w3 RD.out (by simp; omega) (by omega) (by omega)).mono ?_
          rintro e1 w4 ⟨rfl, hch, _⟩
          have hq1 : wrap64 (num (tkGot (((row s.now (1 + j)).drop 0).take 8) 0 8) : Int) = (logRow s.now j).1 := by
            unfold logRow tkGot
            rw [if_neg (by decide), if_neg (by simp [HL.out]), List.drop_zero, List.take_take]
            rfl
          rw [hq1]
          have hq2 : (logRow s.now j).2 = (row s.now (1 + j)).drop 8 := rfl
          have B4 : Hid (Below w2.heap.size w2 w4) := hid (B3.out.trans (hch.below (B := w2.heap.size) (fun k hk => by rw [hk]; exact R3.out) B3.out.size))
          have P5 := hid (P2.out.new B4.out)
          have K5 := hid (BK.out.chg (Chg.new B4.out NoFp) (fun h => h))
          clear hch hq1
          go_simp
          refine hK2 _ _ ?_
          clear hK2 K2
          simp only [wpList]
          refine hK _ _ (fun _ => trivial) ?_
          clear hK K
          have V5 : Hid (Bs w4 (.slice (some ⟨g, 8, none⟩) 504 504) (logRow s.now j).2) := hid (by
            rw [hq2]
            have h9 := bs_part (lo := 8) (hi := 504) (c := 504) K5.out HL.out (by omega) (by omega) (by omega)
            rw [List.take_of_length_le (by simp [HL.out])] at h9
            exact h9)
          generalize hqq : logRow s.now j = q at *
          have HQ := hid hqq
          clear hqq
          apply wpPlan_val; (case ho => rfl); (case hst => rfl); (case hw => rfl); (case hv => intro w' hS; go_simp; first | done | rfl); intro K hK; go_simp; refine hK _ ?_; clear hK K
          refine wpPlan_list rfl rfl rfl (fun K hK => ?_)
          refine wpList_step (fun K2 hK2 => ?_)
          go_simp
          refine hK2 _ _ ?_
          clear hK2 K2
          simp only [wpList]
          refine hK _ _ (fun _ => trivial) ?_
          clear hK K
          have HG : Hid (0 < q.2.length → ∀ g', Value.ownBlock (.slice (some ⟨g, 8, none⟩) 504 504) = some g' → w.heap.size ≤ g' ∧ Value.ownBlock (.slice sp j sc) ≠ some g') := hid (fun _ g' hg' => by
            have e : g = g' := by simpa [Value.ownBlock] using hg'
            have h1 := PA.out.2.2.2.2
            have h2 := G2.out
            refine ⟨by omega, fun h3 => ?_⟩
            have := (PA.out.1.lt g' h3).2
            omega)
          refine wpPlan_list rfl rfl rfl (fun K hK => ?_)
          refine wpList_append_put (q := q) P2.out B4.out V5.out HG.out rfl _ _ rfl rfl rfl rfl (by rw [logOf_length]; omega) ?_
          intro p' c' w7 hp7
          have P7 : Hid (PutsAt w.heap.size (fun g => w.heap.size ≤ g) (logOf s.now (j + 1)) (bs ++ [.slice (some ⟨g, 8, none⟩) 504 504]) w w7 (.slice p' (j + 1) c')) := hid (by
            rw [logOf_length] at hp7
            rw [logOf_succ, HQ.out]
            exact hp7)
          clear hp7
          rw [logOf_length]
          simp only [wpList]
          refine hK _ _ (fun h => by cases h) ?_
          clear hK K
          refine wpPlan_list rfl rfl rfl (fun K hK => ?_)
          refine wpList_step (fun K2 hK2 => ?_)
          go_simp
          refine hK2 _ _ ?_
          clear hK2 K2
          simp only [wpList]
          refine hK _ _ (fun h => by cases h) ?_
          clear hK K
          refine wpPlan_nil ?_
          simp only [Qn]
          go_wp2_with fail
          go_roundw
          case rel => exact ⟨j + 1, _, by omega, by go_num, P7.out⟩
          case measure => simp [intOf]; omega
        · obtain rfl : j = m := by omega
          have hfin := PA.out.puts (fp := fp) (fun g hg hf => by have := H.out.lt g hf; omega) H.out.lt
          have FIN := hid hfin
          have BW := hid PA.out.2.2.2.1
          clear hfin
          have hll : (logOf s.now j).length = j := logOf_length _ _
          have HLL := hid hll
          have HB : Hid (∀ q ∈ logOf s.now j, q.2.length ≤ 600) := hid (fun q hq => by
            obtain ⟨i, hi, rfl⟩ := List.mem_map.1 hq
            have := List.mem_range.1 hi
            have h9 := row_length H.out.ok.now (show 1 + i < n by omega)
            show ((row s.now (1 + i)).drop 8).length ≤ 600
            simp [h9])
          generalize hls : logOf s.now j = ls at *
          subst hll
          clear hls PA
          obtain ⟨wq, hwq⟩ : ∃ wq, wq = wr := ⟨_, rfl⟩
          subst hwq
          go_wp2_with fail
          go_loopw [52] (fun i wr => ∃ (k : Nat), k ≤ ls.length ∧ i = .int .i64 k ∧ Below wq.heap.size wq wr ∧ ∀ (m : Nat) (p : Int × List UInt8), m < k → ls[m]? = some p → 401 ≤ p.1 ∧ p.1 < (n : Int)) (fun i _ => ls.length + 1 - (intOf i).toNat)
          case atStart => exact ⟨0, Nat.zero_le _, rfl, Below.refl _ _, fun m p hm => by omega⟩
          case round =>
            obtain ⟨k, hk, rfl, hbel, hno⟩ := hrel
            have BE := hid hbel
            have NO := hid hno
            clear hbel hno
            have BX := hid (BW.out.trans (BE.out.mono BW.out.size))
            by_cases hlt : k < ls.length
            · obtain ⟨ab, ao, q, p, pc, rfl, hq, k0, k1, hfar⟩ := FIN.out.1 k hlt
              have hab : ab < wq.heap.size := World.block_lt_of_cell? wq ⟨ab, ao + k * 2, none⟩ k0
              have k0' : wr.cell? ⟨ab, ao + k * 2, none⟩ = some (.int .i64 q.1) := (BE.out.cell (p := ⟨ab, ao + k * 2, none⟩) hab).trans k0
              have k1' : wr.cell? ⟨ab, ao + k * 2 + 1, none⟩ = some (.slice p q.2.length pc) := (BE.out.cell (p := ⟨ab, ao + k * 2 + 1, none⟩) hab).trans k1
              have HQ := hid hq
              clear hq k0 k1 hfar
              go_wp2_with fail
              have hba : Below wr.heap.size wr (wr.alloc (Obj.cells #[.int .i64 q.1, .slice p q.2.length pc] 28)) := (Below.refl _ _).alloc (Nat.le_refl _) _
              generalize wr.alloc (Obj.cells #[.int .i64 q.1, .slice p q.2.length pc] 28) = wa at *
              have BA := hid (BX.out.trans (hba.mono BX.out.size))
              have BAR := hid (BE.out.trans (hba.mono BE.out.size))
              clear hba
              refine (home_any wa d fp n s q.1 (H.out.chg (Chg.new BA.out NoFp) (fun _ _ h => h))).mono ?_
              rintro e1 wz ⟨rfl, hw⟩
              subst hw
              generalize hd : decide (401 ≤ q.1 ∧ q.1 < (n : Int)) = hm
              have HD := hid hd
              clear hd
              cases hm with
              | false =>
                have HE2 : Hid (recov n s = (s, 0, 9)) := hid (by
                  rw [HE1.out, if_neg]
                  unfold homesOk
                  intro h
                  rw [List.all_eq_true] at h
                  have := h q (List.mem_of_getElem? HQ.out)
                  rw [HD.out] at this
                  cases this)
                go_wp2_with fail
                go_ret2
                rw [HE2.out]
                exact ⟨rfl, fp, H.out.chg (Chg.new BA.out NoFp) (fun _ _ h => h), Chg.new BA.out fp, fun k h => .inl h⟩
              | true =>
                go_wp2_with fail
                go_roundw
                case rel =>
                  refine ⟨k + 1, by omega, by go_num, BAR.out, fun m p hm hp => ?_⟩
                  rcases Nat.lt_or_ge m k with h | h
                  · exact NO.out m p h hp
                  · obtain rfl : m = k := by omega
                    have e : p = q := Option.some.inj (hp.symm.trans HQ.out)
                    subst e
                    simpa using HD.out
                case measure => simp [intOf]; omega
            · obtain rfl : k = ls.length := by omega
              have HOK : Hid (homesOk n ls = true) := hid (by
                unfold homesOk
                rw [List.all_eq_true]
                intro q hq
                obtain ⟨i, hi, rfl⟩ := List.mem_iff_getElem.1 hq
                have := NO.out i _ hi (List.getElem?_eq_getElem hi)
                simpa using this)
              have HE2 := hid HE1.out
              rw [if_pos HOK.out] at HE2
              have P9 := hid (FIN.out.1.chg FIN.out.2 (Chg.new BE.out fp) (fun k h => .inl h))
              go_wp2_with fail
              refine (finish_any wr d fp n s sp sc ls (H.out.chg (Chg.new BX.out NoFp) (fun _ _ h => h)) P9.out hmn2 HB.out (by omega)).mono ?_
              rintro e1 w9 ⟨rfl, hto⟩
              have T9 := hid (DskTo.trans (Chg.new BX.out fp) (fun k h => .inl h) hto)
              clear hto
              generalize hr : runStps n s (finSteps ls) = R at *
              have HR := hid hr
              clear hr
              by_cases h0 : R.2 = 0
              · have HE3 := hid HE2.out
                rw [if_pos h0] at HE3
                go_wp2_with fail
                go_ret2
                rw [HE3.out]
                exact ⟨rfl, T9.out⟩
              · have HE3 := hid HE2.out
                rw [if_neg h0] at HE3
                have h0' : (R.2 == 0) = false := by simpa using h0
                go_wp2_with fail
                go_ret2
                rw [HE3.out]
                exact ⟨rfl, T9.out⟩
end Go.Proofs.Ytplahohlmiphoaa
