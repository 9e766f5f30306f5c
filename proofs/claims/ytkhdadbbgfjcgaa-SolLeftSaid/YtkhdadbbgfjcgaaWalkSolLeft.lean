/- SolLeft (printed by gen_solleft.py). -/
import Derived.Test.YtkhdadbbgfjcgaaSolMi
import Derived.Test.YtkhdadbbgfjcgaaSolOa
namespace Go.Proofs.Ytkhdadbbgfjcgaa
open Go.RowKit
set_option linter.unusedVariables false

theorem infoLs : (Try.prog.info? TL).map (·.size) = some 1 := by kernel_rfl
def lone (b : List Sl) (s : Sl) : Bool := decide ((mts s b).length = 0)
theorem row_len (b : List Sl) (s : Sl) : (rowP true b s).length = (rowP false b s).length + (if lone b s then 1 else 0) := by
  unfold rowP lone
  by_cases h : mts s b = []
  · simp [h]
  · have : ¬ (mts s b).length = 0 := fun e => h (List.eq_nil_of_length_eq_zero e)
    simp [h]
theorem all_len (b : List Sl) : ∀ a : List Sl, (allP true a b).length = (allP false a b).length + a.countP (lone b)
  | [] => rfl
  | s :: a => by
    have ih := all_len b a
    unfold allP at ih ⊢
    rw [List.flatMap_cons, List.flatMap_cons, List.length_append, List.length_append, ih, row_len, List.countP_cons]
    omega
theorem allF_le (b : List Sl) : ∀ a : List Sl, (allP false a b).length ≤ a.length * b.length
  | [] => by simp [allP]
  | s :: a => by
    have ih := allF_le b a
    have h : (rowP false b s).length ≤ b.length := by unfold rowP; rw [if_neg (by simp)]; exact mts_len s b
    unfold allP at ih ⊢
    rw [List.flatMap_cons, List.length_append, List.length_cons, Nat.add_mul]
    omega
theorem lone_foe {b : List Sl} {s : Sl} (h : lone b s = true) : foesP s b = false := by
  unfold foesP
  unfold lone at h
  have h := of_decide_eq_true h
  rw [List.any_eq_false]
  intro x hx hf
  unfold foeP at hf
  cases hm : meetP s x with
  | none => rw [hm] at hf; cases hf
  | some y =>
    have : y ∈ mts s b := List.mem_filterMap.2 ⟨x, hx, hm⟩
    rw [List.eq_nil_of_length_eq_zero h] at this
    cases this
theorem min_ge (b : List Sl) : ∀ a : List Sl, a.countP (lone b) ≤ (minP a b).length
  | [] => by simp [minP]
  | s :: a => by
    have ih := min_ge b a
    unfold minP at ih ⊢
    rw [List.countP_cons]
    cases hl : lone b s with
    | true =>
      rw [List.filter_cons_of_pos (by rw [lone_foe hl]; rfl), List.length_cons]
      simp; omega
    | false =>
      have h2 := ((List.sublist_cons_self s a).filter (fun s => !(foesP s b))).length_le
      simp only [Bool.false_eq_true, if_false, Nat.add_zero]
      omega
theorem jn_one (s : Sl) (b : List Sl) (h : b.length ≤ 2000) : ((jnP false [s] b).getD []).length = (mts s b).length := by
  have hr : allP false [s] b = mts s b := by unfold allP rowP; simp
  rw [jn_some (by rw [hr]; exact Nat.le_trans (mts_len s b) h), hr, Option.getD_some, srt_len]

set_option maxRecDepth 100000 in
set_option maxHeartbeats 8000000 in
theorem solLeft_walk (a0 : Option Addr) (len0 cap0 : Nat) (z0 : List Int) (a1 : Option Addr) (len1 cap1 : Nat) (z1 : List Int) (w : World) (w0 : IsRow .i64 w a0 len0 cap0 z0) (w1 : IsRow .i64 w a1 len1 cap1 z1) :
    Calls Try.prog 8 #[.slice a0 len0 cap0, .slice a1 len1 cap1] w fun e w' => e = .returned (.bool true) ∧ Below w.heap.size w w' := by
  obtain ⟨xs, hxl, hrd, hx64⟩ := rd_ints w0
  obtain ⟨ys, hyl, hrd2, hy64⟩ := rd_ints w1
  have HR := hid hrd
  have HR2 := hid hrd2
  have HX64 := hid hx64
  have HY64 := hid hy64
  have HB := hid (Below.refl w.heap.size w)
  clear w0 hrd hx64 hxl w1 hrd2 hy64 hyl
  go_enter Try.func8, Try.ntmps8
  go_wp2_with fail
  refine (known_any w).mono ?_
  rintro e v1 ⟨rfl, hb⟩
  have HB_ := hid (HB.out.trans (hb.mono HB.out.size))
  clear HB
  have HB := HB_
  clear HB_
  have HR_ := hid (HR.out.new hb)
  clear HR
  have HR := HR_
  clear HR_
  have HR2_ := hid (HR2.out.new hb)
  clear HR2
  have HR2 := HR2_
  clear HR2_
  clear hb
  go_wp2_with fail
  refine (some_any xs _ v1 HR.out HX64.out).mono ?_
  rintro e v2 ⟨pl, cl, rfl, ho, hb⟩
  have HB_ := hid (HB.out.trans (hb.mono HB.out.size))
  clear HB
  have HB := HB_
  clear HB_
  have HR2_ := hid (HR2.out.new hb)
  clear HR2
  have HR2 := HR2_
  clear HR2_
  have HL := hid ho.at
  have hLn := someP_len xs
  have HOK := hid (someP_ok xs)
  clear ho
  generalize someP xs = L at *
  obtain ⟨n, hn⟩ : ∃ n, L.length = n := ⟨_, rfl⟩
  have HN := hid hn
  rw [hn] at hLn HL ⊢
  clear hn
  clear hb
  go_wp2_with fail
  refine (some_any ys _ v2 HR2.out HY64.out).mono ?_
  rintro e v3 ⟨pk, ck, rfl, ho, hb⟩
  have HB_ := hid (HB.out.trans (hb.mono HB.out.size))
  clear HB
  have HB := HB_
  clear HB_
  have HL_ := hid (HL.out.new hb)
  clear HL
  have HL := HL_
  clear HL_
  have HK := hid ho.at
  have hKn := someP_len ys
  have HOK2 := hid (someP_ok ys)
  clear ho
  generalize someP ys = K at *
  obtain ⟨m, hm⟩ : ∃ m, K.length = m := ⟨_, rfl⟩
  have HM := hid hm
  rw [hm] at hKn HK ⊢
  clear hm
  clear hb
  go_wp2_with fail
  have HAF := hid (show (allP false L K).length ≤ 900 by
    have h := allF_le K L
    rw [HN.out, HM.out] at h
    have := Nat.mul_le_mul hLn hKn
    omega)
  have HAT := hid (all_len K L)
  have HCN := hid (show L.countP (lone K) ≤ n by rw [← HN.out]; exact List.countP_le_length)
  refine (join_any L K _ _ v3 4 4 HL.out HK.out HOK.out HOK2.out (by omega) (by rw [HN.out]; omega) (by rw [HM.out]; omega)).mono ?_
  rintro e v4 ⟨p1, c1, rfl, _, hb⟩
  have HB_ := hid (HB.out.trans (hb.mono HB.out.size))
  clear HB
  have HB := HB_
  clear HB_
  have HL_ := hid (HL.out.new hb)
  clear HL
  have HL := HL_
  clear HL_
  have HK_ := hid (HK.out.new hb)
  clear HK
  have HK := HK_
  clear HK_
  rw [jn_some (by have := HAF.out; omega)]
  simp only [Option.getD_some, Option.isSome_some, if_true, srt_len]
  obtain ⟨f, hf⟩ : ∃ f, (allP false L K).length = f := ⟨_, rfl⟩
  rw [hf] at HAF HAT ⊢
  clear hf
  clear hb
  go_wp2_with fail
  refine (left_any L K _ _ v4 4 4 HL.out HK.out HOK.out HOK2.out (by omega) (by rw [HN.out]; omega) (by rw [HM.out]; omega)).mono ?_
  rintro e v5 ⟨p2, c2, rfl, _, hb⟩
  have HB_ := hid (HB.out.trans (hb.mono HB.out.size))
  clear HB
  have HB := HB_
  clear HB_
  have HL_ := hid (HL.out.new hb)
  clear HL
  have HL := HL_
  clear HL_
  have HK_ := hid (HK.out.new hb)
  clear HK
  have HK := HK_
  clear HK_
  rw [jn_some (by have := HAF.out; have := HAT.out; have := HCN.out; omega)]
  simp only [Option.getD_some, Option.isSome_some, if_true, srt_len]
  obtain ⟨t, ht⟩ : ∃ t, (allP true L K).length = t := ⟨_, rfl⟩
  rw [ht] at HAT ⊢
  clear ht
  clear hb
  go_wp2_with fail
  have hfl := HAF.out
  have htl : t ≤ 1000 := by have := HAF.out; have := HAT.out; have := HCN.out; omega
  go_loopw [11, 12] (fun va vi wr => ∃ a i : Nat, va = .int .i64 a ∧ vi = .int .i64 i ∧ i ≤ n ∧ a ≤ i ∧ Hid (a = (L.take i).countP (lone K)) ∧ Hid (Below v5.heap.size v5 wr)) (fun va vi _ => n + 1 - (intOf vi).toNat)
  case atStart => exact ⟨0, 0, rfl, rfl, Nat.zero_le _, Nat.le_refl _, rfl, Below.refl _ _⟩
  case round =>
    obtain ⟨a, i, rfl, rfl, hi, hai, HA, HW⟩ := hrel
    have hsz := HW.out.size
    by_cases hlt : i < n
    · have hlt2 : (i : Int) < (n : Int) := by omega
      have hiL : i < L.length := by rw [HN.out]; exact hlt
      obtain ⟨G, hG, hgr, hgs⟩ := HL.out.new HW.out
      have hGl : G.length = n := by rw [← HN.out, ← hG, ss_len]
      have HG := hid (And.intro hG (And.intro hgr hgs))
      have HGL := hid hGl
      have HIL := hid hiL
      clear hG hgr hgs hGl hiL
      have hb0 : 0 ≤ (i : Int) := by omega
      go_wp2_with (refine wpList_slice_rd rfl TS _ _ _ rfl TL 1 Try.underlying24 infoLs _ n (sv G) rfl ?hrd i (i + 1) ⟨_, _, rfl, by omega, by omega⟩ ⟨_, _, rfl, by omega, by omega⟩ (by omega) (by omega) ?_; (case hrd => have h := HG.out.2.1; rw [HN.out] at h; exact h); intro ps cs hrs hos; have HRS := hid hrs; clear hrs hos)
      rw [show i + 1 - i = 1 by omega] at HRS
      have hss : SolsAt wr (.slice ps 1 cs) [L[i]'HIL.out] := by
        have hiG : i < G.length := by rw [HGL.out]; exact hlt
        refine ⟨[G[i]], ?_, ?_, fun x hx => ?_⟩
        · have : (ss G)[i]? = L[i]? := by rw [HG.out.1]
          rw [List.getElem?_eq_getElem HIL.out] at this
          have h2 : (ss G)[i]? = some G[i].2 := by rw [ss, List.getElem?_map, List.getElem?_eq_getElem hiG]; rfl
          rw [h2] at this
          injection this with this
          show [G[i].2] = [L[i]'HIL.out]
          rw [this]
        · have h := HRS.out
          rw [Nat.mul_one, Nat.mul_one, List.drop_eq_getElem_cons (by rw [sv_len]; exact hiG)] at h
          simpa [sv] using h
        · simp at hx; subst hx; exact HG.out.2.2 _ (List.getElem_mem hiG)
      have HSS := hid hss
      have HOS := hid (HOK.out _ (List.getElem_mem HIL.out))
      have HCS := hid (show (L.take (i + 1)).countP (lone K) = (L.take i).countP (lone K) + (if lone K (L[i]'HIL.out) then 1 else 0) by
        rw [List.take_add_one, List.getElem?_eq_getElem HIL.out, List.countP_append]
        cases hl : lone K (L[i]'HIL.out) <;> simp [hl])
      clear hss HG HGL HRS
      generalize L[i]'HIL.out = s at *
      refine (join_any [s] K _ _ wr 4 4 HSS.out (HK.out.new HW.out) (fun x hx => by simp at hx; subst hx; exact HOS.out) HOK2.out (by omega) (by simp) (by rw [HM.out]; omega)).mono ?_
      rintro e w2 ⟨p3, c3, rfl, _, hb⟩
      have HW2 := hid (HW.out.trans (hb.mono hsz))
      clear hb
      have hjl := jn_one s K (by rw [HM.out]; omega)
      have hmle := mts_len s K
      rw [HM.out] at hmle
      rw [hjl]
      obtain ⟨er, her⟩ : ∃ er : Int, (if (jnP false [s] K).isSome then (0 : Int) else 4) = er := ⟨_, rfl⟩
      rw [her]
      clear hjl her
      have HLE : Hid (lone K s = decide ((mts s K).length = 0)) := hid rfl
      generalize (mts s K).length = ml at *
      by_cases hm0 : ml = 0
      · have hm2 : (ml : Int) = 0 := by omega
        have hl : lone K s = true := by rw [HLE.out]; exact decide_eq_true hm0
        rw [hl] at HCS
        subst hm0
        clear hl
        go_wp2_with fail
        case roundEnd => exact ⟨⟨a + 1, i + 1, by go_num, by go_num, by omega, by omega, hid (by rw [HCS.out, ← HA.out]; rfl), HW2⟩, by simp [intOf]; omega⟩
      · have hm2 : ¬ (ml : Int) = 0 := by omega
        have hl : lone K s = false := by rw [HLE.out]; exact decide_eq_false hm0
        rw [hl] at HCS
        clear hl
        go_wp2_with fail
        case roundEnd => exact ⟨⟨a, i + 1, rfl, by go_num, by omega, by omega, hid (by rw [HCS.out, ← HA.out]; rfl), HW2⟩, by simp [intOf]; omega⟩
    · have hlt2 : ¬ (i : Int) < (n : Int) := by omega
      have hac : a = L.countP (lone K) := by have := HA.out; rwa [List.take_of_length_le (by rw [HN.out]; omega)] at this
      have htot : (t : Int) = (f : Int) + (a : Int) := by have := HAT.out; omega
      have HAC := hid hac
      clear hac
      go_wp2_with fail
      refine (minus_any L K _ _ wr 4 4 (HL.out.new HW.out) (HK.out.new HW.out) HOK.out HOK2.out (by omega) (by rw [HN.out]; omega) (by rw [HM.out]; omega)).mono ?_
      rintro e w2 ⟨p4, c4, rfl, _, hb⟩
      have HW2 := hid (HW.out.trans (hb.mono hsz))
      have hge := min_ge K L
      rw [← HAC.out] at hge
      have hge2 : (a : Int) ≤ ((minP L K).length : Int) := by omega
      clear hb hge
      go_wp2_with fail
      refine (minus_any L L _ _ w2 4 4 (HL.out.new HW2.out) (HL.out.new HW2.out) HOK.out HOK.out (by omega) (by rw [HN.out]; omega) (by rw [HN.out]; omega)).mono ?_
      rintro e w3 ⟨p5, c5, rfl, _, hb⟩
      have HW3 := hid (HW2.out.trans (hb.mono HW2.out.size))
      have hle2 : ((minP L L).length : Int) ≤ (n : Int) := by
        have : (minP L L).length ≤ L.length := List.length_filter_le _ _
        rw [HN.out] at this
        omega
      clear hb
      go_wp2_with fail
      go_ret
      exact ⟨rfl, HB.out.trans (HW3.out.mono HB.out.size)⟩
end Go.Proofs.Ytkhdadbbgfjcgaa
