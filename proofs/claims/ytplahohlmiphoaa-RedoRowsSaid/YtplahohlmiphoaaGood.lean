/- triadlaw3.Good. -/
import Derived.Test.YtplahohlmiphoaaLaw3
namespace Go.Proofs.Ytplahohlmiphoaa
open Go.RowKit
set_option linter.unusedVariables false

def goodStep (out : List (Int × List UInt8)) (q : Int × List UInt8) : List (Int × List UInt8) :=
  if out.any (fun p => p.1 == 401 + q.1 % 19) = true then out else out ++ [(401 + q.1 % 19, q.2.take 504)]
theorem goodStep_eq (out : List (Int × List UInt8)) (q : Int × List UInt8) : goodStep out q = if out.any (fun p => p.1 == 401 + q.1 % 19) = true then out else out ++ [(401 + q.1 % 19, q.2.take 504)] := rfl
def goodOf (ls : List (Int × List UInt8)) : List (Int × List UInt8) := (ls.take 8).foldl goodStep []
theorem goodOf_step {ls : List (Int × List UInt8)} {j : Nat} {q : Int × List UInt8} (h : ls[j]? = some q) : (ls.take (j + 1)).foldl goodStep [] = goodStep ((ls.take j).foldl goodStep []) q := by
  rw [List.take_add_one, h, List.foldl_append]
  rfl
theorem goodStep_length (out : List (Int × List UInt8)) (q : Int × List UInt8) : (goodStep out q).length ≤ out.length + 1 := by
  unfold goodStep
  split
  · omega
  · simp
theorem good_length (ls : List (Int × List UInt8)) (j : Nat) : ((ls.take j).foldl goodStep []).length ≤ j := by
  induction j with
  | zero => simp
  | succ j ih =>
    rcases Nat.lt_or_ge j ls.length with h | h
    · rw [goodOf_step (List.getElem?_eq_getElem h)]
      have := goodStep_length ((ls.take j).foldl goodStep []) (ls[j])
      omega
    · rw [List.take_of_length_le (by omega), ← List.take_of_length_le h]
      omega

theorem Bs.upto {w : World} {p : Option Addr} {n c hi : Nat} {l : List UInt8} (h : Bs w (.slice p n c) l) (hh : hi ≤ l.length) : Bs w (.slice p hi c) (l.take hi) := by
  obtain ⟨hl, p0, c0, he, h3, h4, h5, h6⟩ := h
  cases he
  unfold Bs
  rw [List.length_take, Nat.min_eq_left hh]
  refine ⟨by simp; omega, _, _, rfl, by omega, h4, h5, fun a ha j u hu => h6 a ha j u ?_⟩
  rw [← bv_take, List.getElem?_take] at hu
  split at hu
  · exact hu
  · cases hu

theorem IsPutsA.get {w0 w : World} {a : Option Addr} {len cap : Nat} {ls : List (Int × List UInt8)} (h : IsPutsA w0 a len cap ls) (hb : Below w0.heap.size w0 w) {j : Nat} (hj : j < len) :
    ∃ ab ao q p c, a = some ⟨ab, ao, none⟩ ∧ ls[j]? = some q ∧ ab < w0.heap.size ∧ w.cell? ⟨ab, ao + j * 2, none⟩ = some (.int .i64 q.1) ∧ w.cell? ⟨ab, ao + j * 2 + 1, none⟩ = some (.slice p q.2.length c) ∧ Bs w (.slice p q.2.length c) q.2 ∧ (0 < q.2.length → ∀ g, Value.ownBlock (.slice p q.2.length c) = some g → g < w0.heap.size) := by
  obtain ⟨ab, ao, q, h1, h2, pb, cb, k0, k1, h3, h4⟩ := h.2.2 j hj
  have hab : ab < w0.heap.size := World.block_lt_of_cell? w0 ⟨ab, ao + j * 2, none⟩ k0
  exact ⟨ab, ao, q, pb, cb, h1, h2, hab, (hb.cell (p := ⟨ab, ao + j * 2, none⟩) hab).trans k0, (hb.cell (p := ⟨ab, ao + j * 2 + 1, none⟩) hab).trans k1, h3.new hb, fun hz g hg => Rd.lt h3 hz (by decide) g hg⟩

set_option maxRecDepth 100000 in
set_option maxHeartbeats 4000000 in
theorem good3_any (w0 w : World) (a : Option Addr) (len cap : Nat) (ls : List (Int × List UInt8)) (h : IsPutsA w0 a len cap ls) (hb : Below w0.heap.size w0 w) (hf : ∀ q ∈ ls, q.2.length ≤ 600) (hl : ls.length ≤ 1000) :
    Calls Try.prog 16 #[.slice a len cap] w fun e w' => ∃ p c bs, e = .returned (.slice p (goodOf ls).length c) ∧ PutsAt w.heap.size (fun g => g < w0.heap.size) (goodOf ls) bs w w' (.slice p (goodOf ls).length c) := by
  have H := hid h
  have HB := hid hb
  have HF := hid hf
  have HL : Hid (ls.length = len) := hid h.1
  have hlen : len ≤ 1000 := by have := HL.out; omega
  clear h hb hf
  go_enter Try.func16, Try.ntmps16
  go_wp2_with fail
  have P0 : Hid (PutsAt w.heap.size (fun g => g < w0.heap.size) ((ls.take 0).foldl goodStep []) [] w w (.slice none 0 0)) := hid (PutsAt.start (Below.refl _ _) (Nat.le_refl _))
  go_loopw [3, 4] (fun v i wr => ∃ (j : Nat) (bs : List Value), j ≤ len ∧ j ≤ 8 ∧ i = .int .i64 j ∧ PutsAt w.heap.size (fun g => g < w0.heap.size) ((ls.take j).foldl goodStep []) bs w wr v) (fun _ i _ => len + 1 - (intOf i).toNat)
  case atStart => exact ⟨0, [], Nat.zero_le _, Nat.zero_le _, rfl, P0.out⟩
  case round =>
    obtain ⟨j, bs, hj, hj8, rfl, hat⟩ := hrel
    have PA := hid hat
    obtain ⟨sp, sc, rfl⟩ := hat.shape
    have GL := good_length ls j
    have HGS : Hid (∀ q, ls[j]? = some q → (ls.take (j + 1)).foldl goodStep [] = goodStep ((ls.take j).foldl goodStep []) q) := hid (fun q hq => goodOf_step hq)
    have HGE : Hid ((j = len ∨ j = 8) → goodOf ls = (ls.take j).foldl goodStep []) := hid (fun he => by
      unfold goodOf
      rcases he with he | he
      · rw [List.take_of_length_le (show ls.length ≤ 8 by have := HL.out; omega), List.take_of_length_le (show ls.length ≤ j by have := HL.out; omega)]
      · rw [he])
    clear hat P0
    generalize hout : (ls.take j).foldl goodStep [] = out at *
    clear hout
    by_cases hlt : j < len ∧ j < 8
    · obtain ⟨hlt, hlt8⟩ := hlt
      have BW := hid (HB.out.trans (PA.out.2.2.2.1.mono HB.out.size))
      obtain ⟨ab, ao, q, p, pc, rfl, hq, hab, k0, k1, hbs, hbg⟩ := H.out.get BW.out hlt
      have HQ := hid hq
      have HBS := hid hbs
      have HBG := hid hbg
      have hql := HF.out q (List.mem_of_getElem? hq)
      clear hq hbs hbg
      go_wp2_with fail
      have hm0 : 0 ≤ q.1 % 19 := Int.emod_nonneg _ (by omega)
      have hm1 : q.1 % 19 < 19 := Int.emod_lt_of_pos _ (by omega)
      have hwi := within3_any q.1 19 wr (by omega) (by omega)
      have HGQ := hid (HGS.out q HQ.out)
      rw [goodStep_eq] at HGQ
      generalize q.1 % 19 = M at *
      refine hwi.mono ?_
      rintro e1 wz ⟨rfl, hw⟩
      subst hw
      clear hwi
      obtain ⟨wq, hwq⟩ : ∃ wq, wq = wr := ⟨_, rfl⟩
      subst hwq
      have HO := hid (PA.out.puts (fp := NoFp) (fun g _ h => h) (fun k h => h.elim)).1
      have hol : out.length ≤ 8 := by omega
      go_wp2_with fail
      go_loopw [6, 7] (fun b i wx => ∃ (k : Nat), k ≤ out.length ∧ b = .bool ((out.take k).any (fun p => p.1 == 401 + M)) ∧ i = .int .i64 k ∧ wx = wq) (fun _ i _ => out.length + 1 - (intOf i).toNat)
      case atStart => exact ⟨0, Nat.zero_le _, rfl, rfl, rfl⟩
      case round =>
        obtain ⟨k, hk, rfl, rfl, rfl⟩ := hrel
        by_cases hlt2 : k < out.length
        · obtain ⟨ob, oo, q2, p2, pc2, rfl, hq2, m0, m1, hfar⟩ := HO.out k hlt2
          have hnx : Hid ((out.take (k + 1)).any (fun p => p.1 == 401 + M) = ((out.take k).any (fun p => p.1 == 401 + M) || (q2.1 == 401 + M))) := hid (by
            rw [List.take_add_one, hq2, List.any_append]
            simp)
          clear hq2 hfar
          generalize hA : (out.take k).any (fun p => p.1 == 401 + M) = A at *
          clear hA
          cases A with
          | true =>
            go_wp2_with fail
            go_roundw
            case rel => exact ⟨k + 1, by omega, by rw [hnx.out]; rfl, by go_num, (by first | exact rfl | exact trivial)⟩
            case measure => simp [intOf]; omega
          | false =>
            go_wp2_with fail
            go_roundw
            case rel => exact ⟨k + 1, by omega, by rw [hnx.out]; simp, by go_num, (by first | exact rfl | exact trivial)⟩
            case measure => simp [intOf]; omega
        · obtain rfl : k = out.length := by omega
          rw [List.take_length]
          generalize hA : out.any (fun p => p.1 == 401 + M) = A at *
          clear hA
          cases A with
          | true =>
            have HGQ2 := hid HGQ.out
            rw [if_pos rfl] at HGQ2
            go_wp2_with fail
            go_roundw
            case rel => exact ⟨j + 1, bs, by omega, by omega, by go_num, by rw [HGQ2.out]; exact PA.out⟩
            case measure => simp [intOf]; omega
          | false =>
            have HGQ2 := hid HGQ.out
            rw [if_neg (by decide)] at HGQ2
            obtain ⟨hi, hmi, hil, hi5⟩ : ∃ hi : Nat, min (q.2.length : Int) 504 = (hi : Int) ∧ hi ≤ q.2.length ∧ q.2.take hi = q.2.take 504 := by
              refine ⟨min q.2.length 504, by omega, by omega, ?_⟩
              rcases Nat.lt_or_ge q.2.length 504 with h | h
              · rw [show min q.2.length 504 = q.2.length by omega, List.take_length, List.take_of_length_le (by omega)]
              · rw [show min q.2.length 504 = 504 by omega]
            have hcl : q.2.length ≤ pc := by obtain ⟨_, _, _, he, h3, _⟩ := HBS.out; cases he; exact h3
            have hhc : hi ≤ pc := by omega
            have H5 := hid hi5
            have HIL := hid hil
            clear hi5 hil hcl
            go_wp2_with fail
            have HK : Hid (∀ w', Below wr.heap.size wr w' → w'.cell? ⟨ab, ao + j * 2 + 1, none⟩ = some (.slice p q.2.length pc)) := hid (fun w' hb => (hb.cell (p := ⟨ab, ao + j * 2 + 1, none⟩) (World.block_lt_of_cell? wr ⟨ab, ao + j * 2 + 1, none⟩ k1)).trans k1)
            refine wp_region_plan (fun w' => w'.cell? ⟨ab, ao + j * 2 + 1, none⟩ = some (.slice p q.2.length pc)) (fun j => !([16, 17, 18].contains j)) (fun j => [17, 18].contains j)
              (.of [0, 1, 2, 3, 4, 5, 6, 7, 8, 9, 10, 11, 12, 13, 14, 15, 16, 17, 18]) (by kernel_rfl) (by kernel_rfl) rfl (by kernel_rfl) (by kernel_rfl) (HK.out _ (below_drewN (Below.refl _ _) 1)) ?_
            iterate 14 (apply wpPlan_val; (case ho => rfl); (case hst => rfl); (case hw => rfl); (case hv => intro w' hS; go_simp; first | done | rfl); intro K hK; go_simp; refine hK _ ?_; clear hK K)
            iterate 2 (apply wpPlan_val; (case ho => rfl); (case hst => rfl); (case hw => rfl); (case hv => intro w' hS; go_simp; first | done | rfl); intro K hK; go_simp; refine hK _ ?_; clear hK K)
            have BD : Hid (Below wr.heap.size wr wr.drew) := hid (below_drewN (Below.refl _ _) 1)
            have V5 : Hid (Bs wr.drew (.slice p hi pc) (401 + M, q.2.take 504).2) := hid (by
              have h9 := Bs.upto (HBS.out.new BD.out) HIL.out
              rw [H5.out] at h9
              exact h9)
            have HG : Hid (0 < (401 + M, q.2.take 504).2.length → ∀ g', Value.ownBlock (.slice p hi pc) = some g' → g' < w0.heap.size ∧ Value.ownBlock (.slice sp out.length sc) ≠ some g') := hid (fun hz g' hg' => by
              have h7 : (q.2.take 504).length ≤ q.2.length := by rw [List.length_take]; omega
              have h8 : 0 < (q.2.take 504).length := hz
              have h1 := HBG.out (by omega) g' (by cases p <;> exact hg')
              have h2 := HB.out.size
              refine ⟨h1, fun h3 => ?_⟩
              have := (PA.out.1.lt g' h3).1
              omega)
            refine wpPlan_list rfl rfl rfl (fun K hK => ?_)
            refine wpList_step (fun K2 hK2 => ?_)
            go_simp
            refine hK2 _ _ ?_
            clear hK2 K2
            simp only [wpList]
            refine hK _ _ (fun _ => HK.out _ (BD.out.alloc BD.out.size _)) ?_
            clear hK K
            refine wpPlan_list rfl rfl rfl (fun K hK => ?_)
            refine wpList_append_put (q := (401 + M, q.2.take 504)) PA.out BD.out V5.out HG.out rfl _ _ rfl rfl rfl rfl (by omega) ?_
            intro p' c' w7 hp7
            have P7 := hid hp7
            clear hp7
            simp only [wpList]
            refine hK _ _ (fun h => by cases h) ?_
            clear hK K
            refine wpPlan_list rfl rfl rfl (fun K hK => ?_)
            refine wpList_step (fun K2 hK2 => ?_)
            go_simp
            refine hK2 _ _ ?_
            clear hK2 K2
            simp only [wpList]
            refine hK _ _ (fun h => by cases h) ?_
            clear hK K
            refine wpPlan_nil ?_
            simp only [Qn]
            go_wp2_with fail
            go_roundw
            case rel => exact ⟨j + 1, _, by omega, by omega, by go_num, by rw [HGQ2.out]; exact P7.out⟩
            case measure => simp [intOf]; omega
    · have hE := hid (HGE.out (by omega))
      by_cases h1 : j < len
      · obtain rfl : j = 8 := by omega
        go_wp2_with fail
        go_ret
        rw [hE.out]
        first | exact ⟨_, _, rfl, bs, PA.out⟩ | exact ⟨_, _, bs, rfl, PA.out⟩
      · go_wp2_with fail
        go_ret
        rw [hE.out]
        first | exact ⟨_, _, rfl, bs, PA.out⟩ | exact ⟨_, _, bs, rfl, PA.out⟩
end Go.Proofs.Ytplahohlmiphoaa
