/- triadlaw16: one, One, Some, known. -/
import Derived.Test.YtkhdadbbgfjcgaaSolJ
namespace Go.Proofs.Ytkhdadbbgfjcgaa
open Go.RowKit
set_option linter.unusedVariables false

set_option maxRecDepth 100000 in
set_option maxHeartbeats 2000000 in
theorem one_any (a b : Sl) (va vb : Value) (w : World) (n : Nat) (ha : SolAt w va a) (hb : SolAt w vb b) (oa : OkS n a) (ob : OkS n b) (hn : n ≤ 1000) :
    Calls Try.prog 17 #[va, vb] w fun e w' => e = .returned (.bool (decide (a = b))) ∧ Below w.heap.size w w' := by
  obtain ⟨pa, ca, rfl⟩ := ha.shape
  obtain ⟨pb, cb, rfl⟩ := hb.shape
  have HA := hid ha
  have HB := hid hb
  have OA := hid oa
  have OB := hid ob
  clear ha hb oa ob
  go_enter Try.func17, Try.ntmps17
  go_wp2_with fail
  have hz1 : Blk (w.alloc (Obj.cells ([.slice pa a.length ca] : List Value).toArray TL)) w.heap.size [.slice pa a.length ca] TL := heap_alloc_new w _
  have hb1 := (Below.refl w.heap.size w).alloc (Nat.le_refl _) (Obj.cells ([.slice pa a.length ca] : List Value).toArray TL)
  have hs1 : (w.alloc (Obj.cells ([.slice pa a.length ca] : List Value).toArray TL)).heap.size = w.heap.size + 1 := by simp
  generalize hw1 : w.alloc (Obj.cells ([.slice pa a.length ca] : List Value).toArray TL) = w1 at hz1 hb1 hs1
  have hw1' : w.alloc (Obj.cells #[.slice pa a.length ca] TL) = w1 := hw1
  try simp only [hw1']
  clear hw1 hw1'
  have hz2 : Blk (w1.alloc (Obj.cells ([.slice pb b.length cb] : List Value).toArray TL)) (w.heap.size + 1) [.slice pb b.length cb] TL := by rw [← hs1]; exact heap_alloc_new w1 _
  have hb2 := (Below.refl w1.heap.size w1).alloc (Nat.le_refl _) (Obj.cells ([.slice pb b.length cb] : List Value).toArray TL)
  generalize hw2 : w1.alloc (Obj.cells ([.slice pb b.length cb] : List Value).toArray TL) = w2 at hz2 hb2
  have hw2' : w1.alloc (Obj.cells #[.slice pb b.length cb] TL) = w2 := hw2
  try simp only [hw2']
  clear hw2 hw2'
  have hb3 := hb1.trans (hb2.mono (by omega))
  refine (same_any [a] [b] _ _ w2 n (SolsAt.one (hz1.chg (Chg.new hb2 NoFp) (fun h => h)) (HA.out.new hb3)) (SolsAt.one hz2 (HB.out.new hb3)) (fun s hs => by simp at hs; subst hs; exact OA.out) (fun s hs => by simp at hs; subst hs; exact OB.out) hn (by simp) (by simp)).mono ?_
  rintro e w3 ⟨rfl, hb4⟩
  have HB3 := hid (hb3.trans (hb4.mono hb3.size))
  have hd : decide ([a] = [b]) = decide (a = b) := by
    by_cases h : a = b
    · simp [h]
    · simp [h]
  rw [hd]
  clear hz1 hb1 hs1 hz2 hb2 hb3 hb4 hd
  go_wp2_with fail
  go_ret
  exact ⟨rfl, HB3.out⟩

/-- one of four variables of a solution by a number -/
def onePart (n : Int) (i : Nat) : Option Pr :=
  if (n.tdiv (5 * 5 ^ i : Nat)) % 5 < 3 then some ([UInt8.ofNat (97 + i)], tm (19 + ((n.tdiv (5 * 5 ^ i : Nat)) % 5).toNat)) else none
def oneP (n : Int) : Sl := (List.range 4).filterMap (onePart n)
theorem one_len (n : Int) (i : Nat) : ((List.range i).filterMap (onePart n)).length ≤ i := by
  have := List.length_filterMap_le (onePart n) (List.range i)
  rwa [List.length_range] at this
theorem one_asc (n : Int) (i : Nat) (hi : i ≤ 4) : OkS 4 ((List.range i).filterMap (onePart n)) := by
  refine ⟨Nat.le_trans (one_len n i) hi, ?_, fun p hp => ?_⟩
  · unfold Asc
    rw [List.pairwise_filterMap]
    refine List.Pairwise.imp_of_mem ?_ (List.pairwise_lt_range (n := i))
    intro a b ha hb hab p hp q hq
    rw [List.mem_range] at ha hb
    have e1 : p.1 = [UInt8.ofNat (97 + a)] := by
      unfold onePart at hp; split at hp
      · cases hp; rfl
      · cases hp
    have e2 : q.1 = [UInt8.ofNat (97 + b)] := by
      unfold onePart at hq; split at hq
      · cases hq; rfl
      · cases hq
    rw [e1, e2]
    have h : ((List.range 4).all fun b => (List.range b).all fun a => ltB [UInt8.ofNat (97 + a)] [UInt8.ofNat (97 + b)]) = true := by decide
    exact List.all_eq_true.1 (List.all_eq_true.1 h b (List.mem_range.2 (by omega))) a (List.mem_range.2 hab)
  · obtain ⟨j, hj, hp⟩ := List.mem_filterMap.1 hp
    unfold onePart at hp; split at hp
    · cases hp; exact ⟨by simp, tm_ok _⟩
    · cases hp
theorem one_succ (n : Int) (i : Nat) : (List.range (i + 1)).filterMap (onePart n) = (List.range i).filterMap (onePart n) ++ (onePart n i).toList := by
  rw [List.range_succ, List.filterMap_append]
  cases h : onePart n i <;> simp [h]
theorem oneP_ok (n : Int) : OkS 4 (oneP n) := one_asc n 4 (Nat.le_refl _)
theorem pow5 (i : Nat) (hi : i < 4) : 1 ≤ 5 ^ i ∧ 5 ^ i ≤ 125 := by
  rcases (show i = 0 ∨ i = 1 ∨ i = 2 ∨ i = 3 by omega) with rfl | rfl | rfl | rfl <;> decide
theorem tdiv_bd (n : Int) (d : Nat) (h0 : -9223372036854775808 ≤ n) (h1 : n ≤ 9223372036854775807) (hd : 2 ≤ d) : -9223372036854775807 ≤ n.tdiv d ∧ n.tdiv d ≤ 9223372036854775807 := by
  have h := Int.natAbs_tdiv n (d : Int)
  have h2 : n.natAbs / d ≤ n.natAbs / 2 := Nat.div_le_div_left hd (by omega)
  rw [Int.natAbs_natCast] at h
  generalize n.tdiv d = x at h ⊢
  have h3 : x.natAbs ≤ n.natAbs / 2 := by rw [h]; exact h2
  clear h h2
  omega
abbrev litN : List Value := [.string ⟨#[97]⟩, .string ⟨#[98]⟩, .string ⟨#[99]⟩, .string ⟨#[100]⟩]
theorem litN_get (i : Nat) (hi : i < 4) : litN[i]? = some (.string (B [UInt8.ofNat (97 + i)])) := by
  rcases (show i = 0 ∨ i = 1 ∨ i = 2 ∨ i = 3 by omega) with rfl | rfl | rfl | rfl <;> rfl

set_option maxRecDepth 100000 in
set_option maxHeartbeats 4000000 in
theorem oneSol_any (n : Int) (w : World) (h0 : -9223372036854775808 ≤ n) (h1 : n ≤ 9223372036854775807) :
    Calls Try.prog 18 #[.int .i64 n] w fun e w' => ∃ p c, e = .returned (.slice p (oneP n).length c) ∧ OwnP w.heap.size w' (.slice p (oneP n).length c) (oneP n) ∧ Below w.heap.size w w' := by
  go_enter Try.func18, Try.ntmps18
  go_wp2_with fail
  go_loopw [3, 4] (fun vo vi wr => ∃ (i k : Nat) (p : Option Addr) (c : Nat) (o : Sl), vo = .slice p k c ∧ vi = .int .i64 i ∧ i ≤ 4 ∧ Hid (o = (List.range i).filterMap (onePart n)) ∧ Hid (o.length = k) ∧ k ≤ i ∧ Hid (OwnP w.heap.size wr (.slice p k c) o) ∧ Hid (Below w.heap.size w wr)) (fun vo vi _ => 5 - (intOf vi).toNat)
  case atStart => exact ⟨0, 0, none, 0, [], rfl, rfl, Nat.zero_le _, rfl, rfl, Nat.zero_le _, World.ownsRow_nil _ _ _ _, Below.refl _ _⟩
  case round =>
    obtain ⟨i, k, p, c, o, rfl, rfl, hi, HO1, HK, hk, HO, HB⟩ := hrel
    have hsz := HB.out.size
    by_cases hlt : i < 4
    · have hlt2 : (i : Int) < 4 := by omega
      go_wp2_with fail
      refine (power_any i wr (by omega)).mono ?_; rintro e1 w1 ⟨rfl, hw⟩; subst hw
      have hp5 := pow5 i hlt
      obtain ⟨pw, hpw⟩ : ∃ pw : Nat, 5 ^ i = pw := ⟨_, rfl⟩
      obtain ⟨d, hd⟩ : ∃ d : Nat, 5 * pw = d := ⟨_, rfl⟩
      rw [hpw] at hp5 ⊢
      have hd2 : 5 * (pw : Int) = (d : Int) := by omega
      have hd0 : ((d : Int) == 0) = false := by simp; omega
      have htb := tdiv_bd n d h0 h1 (by omega)
      have HD := hid (show (5 * 5 ^ i : Nat) = d by rw [hpw, hd])
      clear hpw hd
      go_wp2_with fail
      refine (within16_any (n.tdiv d) 5 wr (by omega) (by omega)).mono ?_; rintro e1 w1 ⟨rfl, hw⟩; subst hw
      have hm0 := Int.emod_nonneg (n.tdiv d) (show (5 : Int) ≠ 0 by omega)
      have hm1 := Int.emod_lt_of_pos (n.tdiv d) (show (0 : Int) < 5 by omega)
      obtain ⟨q, hq⟩ : ∃ q : Nat, n.tdiv d % 5 = (q : Int) := ⟨(n.tdiv d % 5).toNat, by omega⟩
      rw [hq]
      have hq5 : q < 5 := by omega
      have HQ := hid (show onePart n i = if q < 3 then some ([UInt8.ofNat (97 + i)], tm (19 + q)) else none by
        unfold onePart; rw [HD.out, hq]
        by_cases h : q < 3
        · rw [if_pos (by omega), if_pos h]; rfl
        · rw [if_neg (by omega), if_neg h])
      clear hq hm0 hm1 htb hd0 hd2 hp5
      by_cases hq3 : q < 3
      · have hq32 : (q : Int) < 3 := by omega
        have hpart : onePart n i = some ([UInt8.ofNat (97 + i)], tm (19 + q)) := by rw [HQ.out, if_pos hq3]
        have HP := hid hpart
        clear hpart
        obtain ⟨z19, hz19⟩ : ∃ z : Nat, 19 + (q : Int) = (z : Int) := ⟨19 + q, by omega⟩
        have hzw : IntKind.i64.wrap (z19 : Int) = (z19 : Int) := IntWalk.i64_in _ (by omega)
        have ht19 : termP15 (z19 : Int) = tm (19 + q) := by
          unfold termP15
          have : (z19 : Int) % 24 = ((19 + q : Nat) : Int) := by rw [Int.emod_eq_of_lt (by omega) (by omega)]; omega
          rw [this]; rfl
        obtain ⟨tt, htt⟩ : ∃ tt, tm (19 + q) = tt := ⟨_, rfl⟩
        rw [htt] at ht19 HP
        obtain ⟨nm, hnm⟩ : ∃ nm : List UInt8, [UInt8.ofNat (97 + i)] = nm := ⟨_, rfl⟩
        rw [hnm] at HP
        have hlg := litN_get i hlt
        rw [hnm] at hlg
        have HLG := hid hlg
        have htv : tv tt = .agg #[.int .i64 tt.1, .string (B tt.2.1), .string (B tt.2.2.1), .string (B tt.2.2.2)] := rfl
        clear htt hnm hlg
        go_wp2_with fail
        refine wp_region_plan (fun _ => True) (fun j => [0, 2, 3, 5, 6, 8, 11].contains j) (fun _ => false)
          (.cons 0 (.cons 2 (.cons 5 (.cons 6 (.fork 1 7 (.cons 3 (.fork 4 7 (.of [7, 8, 9, 10, 11]) (.of [4, 8, 9, 10, 11]))) (.of [1, 3, 4, 8, 9, 10, 11])))))) (by kernel_rfl) (by kernel_rfl) rfl (by kernel_rfl) (by kernel_rfl) trivial ?_
        iterate 4 (apply wpPlan_val; (case ho => rfl); (case hst => rfl); (case hw => rfl); (case hv => intro w' hS; go_simp; first | done | rfl); intro K hK; go_simp; refine hK _ ?_; clear hK K)
        have HBd := hid HB.out.drew
        have HOd : Hid (OwnP w.heap.size wr.drew (.slice p k c) o) := hid (by
          have h := HO.out
          exact h)
        generalize wr.drew = wd at *
        refine ⟨?_, ?_⟩
        · refine effect_list rfl rfl (fun K hK => ?_)
          refine wpList_step (fun K2 hK2 => ?_)
          go_simp
          have hgl : Blk (wd.alloc (Obj.cells litN.toArray 9)) wd.heap.size litN 9 := heap_alloc_new wd _
          have hgb := (Below.refl wd.heap.size wd).alloc (Nat.le_refl _) (Obj.cells litN.toArray 9)
          have hcl : (wd.alloc (Obj.cells litN.toArray 9)).cell? ⟨wd.heap.size, i, none⟩ = some (.string (B nm)) := (hgl.cell i).trans HLG.out
          have HWwl := hid (HBd.out.trans (hgb.mono HBd.out.size))
          have HGwl := hid (show Below wd.heap.size wd (wd.alloc (Obj.cells litN.toArray 9)) from hgb)
          have HCL := hid (And.intro hgl.lt hcl)
          clear hgl hgb hcl
          refine hK2 _ _ ?_
          clear hK2 K2
          simp only [wpList]
          refine hK _ _ (fun _ => trivial) ?_
          clear hK K
          obtain ⟨gl, hgl⟩ : ∃ gl, wd.heap.size = gl := ⟨_, rfl⟩
          obtain ⟨wl, hw2⟩ : ∃ wl, wd.alloc (Obj.cells litN.toArray 9) = wl := ⟨_, rfl⟩
          rw [hw2] at HWwl HGwl HCL
          rw [hgl] at HCL
          have hw3 : wd.alloc (Obj.cells #[.string ⟨#[97]⟩, .string ⟨#[98]⟩, .string ⟨#[99]⟩, .string ⟨#[100]⟩] 9) = wl := hw2
          simp only [hw3, hgl]
          clear hw2 hw3 hgl
          apply wpPlan_val; (case ho => rfl); (case hst => rfl); (case hw => rfl); (case hv => intro w' hS; go_simp; first | done | rfl); intro K hK; go_simp; refine hK _ ?_; clear hK K
          have HOl := hid (HOd.out.new HGwl.out)
          refine ⟨?_, ?_⟩
          · have hcell : wl.cell? ⟨gl, i, none⟩ = some (.string (B nm)) := HCL.out.2
            refine effect_list rfl rfl (fun K hK => ?_)
            refine wpList_step (fun K2 hK2 => ?_)
            go_simp
            refine hK2 _ _ ?_
            clear hK2 K2
            simp only [wpList]
            refine hK _ _ (fun _ => trivial) ?_
            clear hK K
            refine wpPlan_list rfl rfl rfl (fun K hK => ?_)
            refine wpList_step (fun K2 hK2 => ?_)
            go_simp
            refine (term15_any (z19 : Int) wl).mono ?_
            rintro e2 wt ⟨rfl, hb2⟩
            rw [ht19, htv]
            have HWwt := hid (HWwl.out.trans (hb2.mono HWwl.out.size))
            have HGwt := hid hb2
            clear hb2
            go_simp
            refine hK2 _ _ ?_
            clear hK2 K2
            simp only [wpList]
            refine hK _ _ (fun _ => trivial) ?_
            clear hK K
            have HOt := hid (HOl.out.new HGwt.out)
            apply wpPlan_val; (case ho => rfl); (case hst => rfl); (case hw => rfl); (case hv => intro w' hS; go_simp; first | done | rfl); intro K hK; go_simp; refine hK _ ?_; clear hK K
            refine wpPlan_list rfl rfl rfl (fun K hK => ?_)
            refine wpList_step (fun K2 hK2 => ?_)
            go_simp
            have hz : Blk (wt.alloc (Obj.cells (pc (nm, tt)).toArray TP)) wt.heap.size (pc (nm, tt)) TP := heap_alloc_new wt _
            have hzb := (Below.refl wt.heap.size wt).alloc (Nat.le_refl _) (Obj.cells (pc (nm, tt)).toArray TP)
            refine hK2 _ _ ?_
            clear hK2 K2
            simp only [wpList]
            refine hK _ _ (fun _ => trivial) ?_
            clear hK K
            have hoz := OwnP.new (show OwnP w.heap.size wt (.slice p k c) o from HOt.out) hzb
            have hbz := HWwt.out.trans (hzb.mono HWwt.out.size)
            obtain ⟨wz, hwz⟩ : ∃ wz, wt.alloc (Obj.cells (pc (nm, tt)).toArray TP) = wz := ⟨_, rfl⟩
            obtain ⟨gz, hgz⟩ : ∃ gz, wt.heap.size = gz := ⟨_, rfl⟩
            rw [hwz] at hz hzb hoz hbz
            rw [hgz] at hz
            have hwz2 : wt.alloc (Obj.cells #[.string (B nm), .int .i64 tt.1, .string (B tt.2.1), .string (B tt.2.2.1), .string (B tt.2.2.2)] TP) = wz := hwz
            try simp only [hwz2]
            try simp only [hwz]
            simp only [hgz]
            clear hwz hwz2 hgz hzb
            refine wpPlan_list rfl rfl rfl (fun K hK => ?_)
            refine wpList_append_rd rfl _ _ TL rfl w.heap.size TP _ 5 72 Try.underlying27 infoP rfl (by decide) (.slice p k c) o.length (pcs o) rfl hoz _ 1 (pc (nm, tt)) rfl (rd_one hz) (pc_one _) (by rw [HK.out]; simp only [maxLen]; omega) (by rw [HK.out]; omega) hbz.size ?_
            intro p4 c4 w4 ho4 hg4 _
            have HO4 := hid ho4
            have HB4 := hid (hbz.trans (own_below hoz hg4 hbz.size))
            clear ho4 hg4 hz hoz hbz
            rw [HK.out] at HO4 ⊢
            simp only [wpList]
            refine hK _ _ (fun _ => trivial) ?_
            clear hK K
            apply wpPlan_val; (case ho => rfl); (case hst => rfl); (case hw => rfl); (case hv => intro w' hS; go_simp; first | done | rfl); intro K hK; go_simp; refine hK _ ?_; clear hK K
            refine wpPlan_nil ?_
            simp only [Qn]
            go_wp2_with fail
            case roundEnd => exact ⟨⟨i + 1, k + 1, p4, c4, o ++ [(nm, tt)], rfl, by go_num, by omega, hid (by rw [one_succ, HP.out, ← HO1.out]; rfl), hid (by rw [List.length_append, HK.out]; rfl), by omega, hid ⟨by rw [pcs_length], by
              have h := HO4.out.2
              rw [pcs_append, List.length_append, HK.out]
              simpa [pcs] using h⟩, HB4⟩, by simp [intOf]; omega⟩
          · refine effect_list rfl rfl (fun K hK => ?_)
            refine wpList_step (fun K2 hK2 => ?_)
            go_simp
            refine (term15_any (z19 : Int) wl).mono ?_
            rintro e2 wt ⟨rfl, hb2⟩
            rw [ht19, htv]
            have HCL := hid (show gl < wt.heap.size ∧ wt.cell? ⟨gl, i, none⟩ = some (.string (B nm)) from ⟨Nat.lt_of_lt_of_le HCL.out.1 hb2.size, (hb2.cell (p := ⟨gl, i, none⟩) HCL.out.1).trans HCL.out.2⟩)
            have HWwt := hid (HWwl.out.trans (hb2.mono HWwl.out.size))
            have HGwt := hid hb2
            clear hb2
            go_simp
            refine hK2 _ _ ?_
            clear hK2 K2
            simp only [wpList]
            refine hK _ _ (fun _ => trivial) ?_
            clear hK K
            have HOt := hid (HOl.out.new HGwt.out)
            have hcell : wt.cell? ⟨gl, i, none⟩ = some (.string (B nm)) := HCL.out.2
            refine wpPlan_list rfl rfl rfl (fun K hK => ?_)
            refine wpList_step (fun K2 hK2 => ?_)
            go_simp
            refine hK2 _ _ ?_
            clear hK2 K2
            simp only [wpList]
            refine hK _ _ (fun _ => trivial) ?_
            clear hK K
            apply wpPlan_val; (case ho => rfl); (case hst => rfl); (case hw => rfl); (case hv => intro w' hS; go_simp; first | done | rfl); intro K hK; go_simp; refine hK _ ?_; clear hK K
            refine wpPlan_list rfl rfl rfl (fun K hK => ?_)
            refine wpList_step (fun K2 hK2 => ?_)
            go_simp
            have hz : Blk (wt.alloc (Obj.cells (pc (nm, tt)).toArray TP)) wt.heap.size (pc (nm, tt)) TP := heap_alloc_new wt _
            have hzb := (Below.refl wt.heap.size wt).alloc (Nat.le_refl _) (Obj.cells (pc (nm, tt)).toArray TP)
            refine hK2 _ _ ?_
            clear hK2 K2
            simp only [wpList]
            refine hK _ _ (fun _ => trivial) ?_
            clear hK K
            have hoz := OwnP.new (show OwnP w.heap.size wt (.slice p k c) o from HOt.out) hzb
            have hbz := HWwt.out.trans (hzb.mono HWwt.out.size)
            obtain ⟨wz, hwz⟩ : ∃ wz, wt.alloc (Obj.cells (pc (nm, tt)).toArray TP) = wz := ⟨_, rfl⟩
            obtain ⟨gz, hgz⟩ : ∃ gz, wt.heap.size = gz := ⟨_, rfl⟩
            rw [hwz] at hz hzb hoz hbz
            rw [hgz] at hz
            have hwz2 : wt.alloc (Obj.cells #[.string (B nm), .int .i64 tt.1, .string (B tt.2.1), .string (B tt.2.2.1), .string (B tt.2.2.2)] TP) = wz := hwz
            try simp only [hwz2]
            try simp only [hwz]
            simp only [hgz]
            clear hwz hwz2 hgz hzb
            refine wpPlan_list rfl rfl rfl (fun K hK => ?_)
            refine wpList_append_rd rfl _ _ TL rfl w.heap.size TP _ 5 72 Try.underlying27 infoP rfl (by decide) (.slice p k c) o.length (pcs o) rfl hoz _ 1 (pc (nm, tt)) rfl (rd_one hz) (pc_one _) (by rw [HK.out]; simp only [maxLen]; omega) (by rw [HK.out]; omega) hbz.size ?_
            intro p4 c4 w4 ho4 hg4 _
            have HO4 := hid ho4
            have HB4 := hid (hbz.trans (own_below hoz hg4 hbz.size))
            clear ho4 hg4 hz hoz hbz
            rw [HK.out] at HO4 ⊢
            simp only [wpList]
            refine hK _ _ (fun _ => trivial) ?_
            clear hK K
            apply wpPlan_val; (case ho => rfl); (case hst => rfl); (case hw => rfl); (case hv => intro w' hS; go_simp; first | done | rfl); intro K hK; go_simp; refine hK _ ?_; clear hK K
            refine wpPlan_nil ?_
            simp only [Qn]
            go_wp2_with fail
            case roundEnd => exact ⟨⟨i + 1, k + 1, p4, c4, o ++ [(nm, tt)], rfl, by go_num, by omega, hid (by rw [one_succ, HP.out, ← HO1.out]; rfl), hid (by rw [List.length_append, HK.out]; rfl), by omega, hid ⟨by rw [pcs_length], by
              have h := HO4.out.2
              rw [pcs_append, List.length_append, HK.out]
              simpa [pcs] using h⟩, HB4⟩, by simp [intOf]; omega⟩
        · refine effect_list rfl rfl (fun K hK => ?_)
          refine wpList_step (fun K2 hK2 => ?_)
          go_simp
          refine (term15_any (z19 : Int) wd).mono ?_
          rintro e2 wt ⟨rfl, hb2⟩
          rw [ht19, htv]
          have HWwt := hid (HBd.out.trans (hb2.mono HBd.out.size))
          have HGwt := hid hb2
          clear hb2
          go_simp
          refine hK2 _ _ ?_
          clear hK2 K2
          simp only [wpList]
          refine hK _ _ (fun _ => trivial) ?_
          clear hK K
          have HOt := hid (HOd.out.new HGwt.out)
          refine wpPlan_list rfl rfl rfl (fun K hK => ?_)
          refine wpList_step (fun K2 hK2 => ?_)
          go_simp
          have hgl : Blk (wt.alloc (Obj.cells litN.toArray 9)) wt.heap.size litN 9 := heap_alloc_new wt _
          have hgb := (Below.refl wt.heap.size wt).alloc (Nat.le_refl _) (Obj.cells litN.toArray 9)
          have hcl : (wt.alloc (Obj.cells litN.toArray 9)).cell? ⟨wt.heap.size, i, none⟩ = some (.string (B nm)) := (hgl.cell i).trans HLG.out
          have HWwl := hid (HWwt.out.trans (hgb.mono HWwt.out.size))
          have HGwl := hid (show Below wt.heap.size wt (wt.alloc (Obj.cells litN.toArray 9)) from hgb)
          have HCL := hid (And.intro hgl.lt hcl)
          clear hgl hgb hcl
          refine hK2 _ _ ?_
          clear hK2 K2
          simp only [wpList]
          refine hK _ _ (fun _ => trivial) ?_
          clear hK K
          obtain ⟨gl, hgl⟩ : ∃ gl, wt.heap.size = gl := ⟨_, rfl⟩
          obtain ⟨wl, hw2⟩ : ∃ wl, wt.alloc (Obj.cells litN.toArray 9) = wl := ⟨_, rfl⟩
          rw [hw2] at HWwl HGwl HCL
          rw [hgl] at HCL
          have hw3 : wt.alloc (Obj.cells #[.string ⟨#[97]⟩, .string ⟨#[98]⟩, .string ⟨#[99]⟩, .string ⟨#[100]⟩] 9) = wl := hw2
          simp only [hw3, hgl]
          clear hw2 hw3 hgl
          have HOl := hid (HOt.out.new HGwl.out)
          apply wpPlan_val; (case ho => rfl); (case hst => rfl); (case hw => rfl); (case hv => intro w' hS; go_simp; first | done | rfl); intro K hK; go_simp; refine hK _ ?_; clear hK K
          have hcell : wl.cell? ⟨gl, i, none⟩ = some (.string (B nm)) := HCL.out.2
          refine wpPlan_list rfl rfl rfl (fun K hK => ?_)
          refine wpList_step (fun K2 hK2 => ?_)
          go_simp
          refine hK2 _ _ ?_
          clear hK2 K2
          simp only [wpList]
          refine hK _ _ (fun _ => trivial) ?_
          clear hK K
          apply wpPlan_val; (case ho => rfl); (case hst => rfl); (case hw => rfl); (case hv => intro w' hS; go_simp; first | done | rfl); intro K hK; go_simp; refine hK _ ?_; clear hK K
          refine wpPlan_list rfl rfl rfl (fun K hK => ?_)
          refine wpList_step (fun K2 hK2 => ?_)
          go_simp
          have hz : Blk (wl.alloc (Obj.cells (pc (nm, tt)).toArray TP)) wl.heap.size (pc (nm, tt)) TP := heap_alloc_new wl _
          have hzb := (Below.refl wl.heap.size wl).alloc (Nat.le_refl _) (Obj.cells (pc (nm, tt)).toArray TP)
          refine hK2 _ _ ?_
          clear hK2 K2
          simp only [wpList]
          refine hK _ _ (fun _ => trivial) ?_
          clear hK K
          have hoz := OwnP.new (show OwnP w.heap.size wl (.slice p k c) o from HOl.out) hzb
          have hbz := HWwl.out.trans (hzb.mono HWwl.out.size)
          obtain ⟨wz, hwz⟩ : ∃ wz, wl.alloc (Obj.cells (pc (nm, tt)).toArray TP) = wz := ⟨_, rfl⟩
          obtain ⟨gz, hgz⟩ : ∃ gz, wl.heap.size = gz := ⟨_, rfl⟩
          rw [hwz] at hz hzb hoz hbz
          rw [hgz] at hz
          have hwz2 : wl.alloc (Obj.cells #[.string (B nm), .int .i64 tt.1, .string (B tt.2.1), .string (B tt.2.2.1), .string (B tt.2.2.2)] TP) = wz := hwz
          try simp only [hwz2]
          try simp only [hwz]
          simp only [hgz]
          clear hwz hwz2 hgz hzb
          refine wpPlan_list rfl rfl rfl (fun K hK => ?_)
          refine wpList_append_rd rfl _ _ TL rfl w.heap.size TP _ 5 72 Try.underlying27 infoP rfl (by decide) (.slice p k c) o.length (pcs o) rfl hoz _ 1 (pc (nm, tt)) rfl (rd_one hz) (pc_one _) (by rw [HK.out]; simp only [maxLen]; omega) (by rw [HK.out]; omega) hbz.size ?_
          intro p4 c4 w4 ho4 hg4 _
          have HO4 := hid ho4
          have HB4 := hid (hbz.trans (own_below hoz hg4 hbz.size))
          clear ho4 hg4 hz hoz hbz
          rw [HK.out] at HO4 ⊢
          simp only [wpList]
          refine hK _ _ (fun _ => trivial) ?_
          clear hK K
          apply wpPlan_val; (case ho => rfl); (case hst => rfl); (case hw => rfl); (case hv => intro w' hS; go_simp; first | done | rfl); intro K hK; go_simp; refine hK _ ?_; clear hK K
          refine wpPlan_nil ?_
          simp only [Qn]
          go_wp2_with fail
          case roundEnd => exact ⟨⟨i + 1, k + 1, p4, c4, o ++ [(nm, tt)], rfl, by go_num, by omega, hid (by rw [one_succ, HP.out, ← HO1.out]; rfl), hid (by rw [List.length_append, HK.out]; rfl), by omega, hid ⟨by rw [pcs_length], by
            have h := HO4.out.2
            rw [pcs_append, List.length_append, HK.out]
            simpa [pcs] using h⟩, HB4⟩, by simp [intOf]; omega⟩
      · have hq32 : ¬ (q : Int) < 3 := by omega
        have hpart : onePart n i = none := by rw [HQ.out, if_neg hq3]
        have HP := hid hpart
        clear hpart
        go_wp2_with fail
        go_roundw
        case rel => exact ⟨i + 1, k, p, c, o, rfl, by go_num, by omega, hid (by rw [one_succ, HP.out, HO1.out]; simp), HK, by omega, HO, HB⟩
        case measure => simp [intOf]; omega
    · have hlt2 : ¬ (i : Int) < 4 := by omega
      obtain rfl : i = 4 := by omega
      go_wp2_with fail
      go_ret
      have ho : o = oneP n := HO1.out
      subst ho
      exact ⟨p, c, by rw [HK.out]; rfl, by rw [HK.out]; exact HO.out, HB.out⟩
end Go.Proofs.Ytkhdadbbgfjcgaa
