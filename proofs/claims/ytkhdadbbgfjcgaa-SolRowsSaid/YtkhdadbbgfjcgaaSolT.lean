/- triadref16: Meet, Get. -/
import Derived.Test.YtkhdadbbgfjcgaaSolR
namespace Go.Proofs.Ytkhdadbbgfjcgaa
open Go.RowKit
set_option linter.unusedVariables false

set_option maxRecDepth 100000 in
set_option maxHeartbeats 4000000 in
theorem rMeet_any (a b : Sl) (va vb : Value) (w : World) (n m : Nat) (ha : SolAt w va a) (hb : SolAt w vb b) (oa : OkS n a) (ob : OkS m b) (hn : n + m ≤ 200) :
    Calls Try.prog 49 #[va, vb] w (Res w.heap.size w (meetP a b)) := by
  obtain ⟨pa, ca, rfl⟩ := ha.shape
  obtain ⟨pb, cb, rfl⟩ := hb.shape
  have hal := oa.len
  have hbl := ob.len
  have HA := hid ha
  have HBB := hid hb
  have OA := hid oa
  have OB := hid ob
  clear ha hb oa ob
  go_enter Try.func49, Try.ntmps49
  go_wp2_with (at_builtin; refine wp_keep ?_)
  refine hid ?_
  refine wpList_append_rd rfl _ _ TL rfl w.heap.size TP _ 5 72 Try.underlying27 infoP rfl (by decide) _ 0 [] rfl (own_empty w TP 5 _ (Nat.le_refl _)) _ a.length (pcs a) rfl (HA.out.new ((Below.refl _ _).alloc (Nat.le_refl _) _)).1 (pcs_one a) (by simp only [maxLen]; omega) (by omega) (by simp) ?_
  intro p1 c1 w1 ho1 hg1 _
  have hb1 : Below w.heap.size w w1 := ((Below.refl w.heap.size w).alloc (Nat.le_refl _) _).grown hg1 (by simp) (by intro k hk; cases hk; exact Nat.le_refl _)
  rw [Nat.zero_add] at ho1 ⊢
  rw [List.nil_append] at ho1
  have HO1 : Hid (OwnP w.heap.size w1 (.slice p1 a.length c1) a) := hid ho1
  have HB1 := hid hb1
  clear ho1 hb1 hg1
  go_wp2_with fail
  go_loopw [6, 7] (fun vo vi wr => ∃ (i : Nat) (x : Sl) (p : Option Addr) (c : Nat), vo = .slice p x.length c ∧ vi = .int .i64 i ∧ i ≤ b.length ∧ Hid (OwnP w.heap.size wr (.slice p x.length c) x) ∧ Hid (Below w.heap.size w wr) ∧ Hid (meetP x (b.drop i) = meetP a b) ∧ Hid (OkS (n + i) x)) (fun _ vi _ => b.length + 1 - (intOf vi).toNat)
  case atStart => exact ⟨0, a, p1, c1, rfl, rfl, Nat.zero_le _, HO1, HB1, hid (by rw [List.drop_zero]), hid (OA.out.mono (by omega))⟩
  case round =>
    obtain ⟨i, x, p, c, rfl, rfl, hi, HO, HB, HM, OX⟩ := hrel
    by_cases hlt : i < b.length
    · have hlt2 : (i : Int) < (b.length : Int) := by omega
      obtain ⟨bb, off, rfl, _⟩ := HBB.out.cells (by omega)
      have HC := hid ((HBB.out.new HB.out).cellsAt hlt)
      have hdrop : b.drop i = b[i] :: b.drop (i + 1) := List.drop_eq_getElem_cons hlt
      have hok := OB.out.ok b[i] (List.getElem_mem hlt)
      have HD := hid hdrop
      have HQ := hid hok
      clear hdrop hok
      go_wp2_with fail
      refine wp_region_plan (fun w' => CellsAt w' bb (off + i * 5) b[i]) (fun j => !([11].contains j)) (fun _ => false)
        (.of [0, 1, 2, 3, 4, 5, 6, 7, 8, 9, 10, 11, 12, 13, 14, 15, 16]) (by kernel_rfl) (by kernel_rfl) rfl (by kernel_rfl) (by kernel_rfl) HC.out ?_
      iterate 11 (apply wpPlan_val; (case ho => rfl); (case hst => rfl); (case hw => rfl); (case hv => intro w' hS; obtain ⟨c0, c1, c2, c3, c4⟩ := hS; go_simp; first | done | rfl); intro K hK; go_simp; refine hK _ ?_; clear hK K)
      refine wpPlan_list rfl rfl rfl (fun K hK => ?_)
      refine wpList_step (fun K2 hK2 => ?_)
      go_simp
      have hx0 := OX.out
      have hxl := hx0.len
      refine (rSet_any x _ (b[i]).1 (b[i]).2 wr.drew (n + i) (show SolAt wr.drew _ x from HO.out.sol) hx0 (by omega) HQ.out.2).mono ?_
      rintro e2 w2 ⟨p2, c2, rfl, ho2, hb2⟩
      have hsz : w.heap.size ≤ wr.heap.size := HB.out.size
      have HB2 := hid ((HB.out.drew).trans (hb2.mono (by simpa using hsz)))
      have HC2 := hid ((HBB.out.new HB2.out).cellsAt hlt)
      have HO2 := hid ho2
      clear ho2 hb2
      go_simp
      refine hK2 _ _ ?_
      clear hK2 K2
      simp only [wpList]
      refine hK _ _ (fun _ => HC2.out) ?_
      clear hK K
      iterate 5 (apply wpPlan_val; (case ho => rfl); (case hst => rfl); (case hw => rfl); (case hv => intro w' hS; obtain ⟨c0, c1, c2, c3, c4⟩ := hS; go_simp; first | done | rfl); intro K hK; go_simp; refine hK _ ?_; clear hK K)
      refine wpPlan_nil ?_
      simp only [Qn]
      cases hset : setP x (b[i]).1 (b[i]).2 with
      | none =>
        rw [hset] at HO2
        have HS := hid hset
        clear hset
        go_wp2_with fail
        go_ret2
        have hm : meetP a b = none := by
          rw [← HM.out, HD.out]; exact meetP_none HS.out
        rw [hm]
        exact ⟨none, 0, rfl, World.ownsRow_nil _ _ _ _, HB2.out⟩
      | some y =>
        rw [hset] at HO2
        have HS := hid hset
        clear hset
        go_wp2_with fail
        go_roundw
        case rel => exact ⟨i + 1, y, p2, c2, rfl, by go_num, by omega, hid (HO2.out.base (by simpa using hsz)), HB2, hid (by rw [← HM.out, HD.out]; exact (meetP_some HS.out).symm), hid ((hx0.set HQ.out.1 HQ.out.2 HS.out).mono (by omega))⟩
        case measure => simp [intOf]; omega
    · have hil : i = b.length := by omega
      have hil2 : ¬ (i : Int) < (b.length : Int) := by omega
      go_wp2_with fail
      go_ret2
      have hm : meetP a b = some x := by
        rw [← HM.out, hil, List.drop_length]; rfl
      rw [hm]
      exact ⟨p, c, rfl, HO.out, HB.out⟩

theorem getP_none {s : Sl} {v : List UInt8} (h : ∀ x (hx : x < s.length), (s[x]).1 ≠ v) : getP s v = none := by
  induction s with
  | nil => rfl
  | cons p s ih =>
    unfold getP
    rw [if_neg (show ¬ p.1 = v from h 0 (by simp)), ih (fun x hx => h (x + 1) (by simpa using hx))]
theorem getP_at : ∀ {s : Sl} {v : List UInt8} {i : Nat} (hi : i < s.length), (∀ x (hx : x < s.length), x < i → (s[x]).1 ≠ v) → (s[i]).1 = v → getP s v = some (s[i]).2
  | p :: s, v, 0, hi, h, he => by unfold getP; rw [if_pos (show p.1 = v from he)]; rfl
  | p :: s, v, i + 1, hi, h, he => by
    unfold getP
    rw [if_neg (show ¬ p.1 = v from h 0 (by simp) (by omega))]
    exact getP_at (by simpa using hi) (fun x hx hxi => h (x + 1) (by simpa using hx) (by omega)) he

set_option maxRecDepth 100000 in
set_option maxHeartbeats 4000000 in
theorem rGet_any (s : Sl) (v0 : Value) (v : List UInt8) (w : World) (hs : SolAt w v0 s) (hl : s.length ≤ 100000) :
    Calls Try.prog 66 #[v0, .string (B v)] w fun e w' => e = .returned (.tuple #[tv (getT s v), .bool (getP s v).isSome]) ∧ Below w.heap.size w w' := by
  obtain ⟨p, c, rfl⟩ := hs.shape
  have HS := hid hs
  clear hs
  go_enter Try.func66, Try.ntmps66
  go_wp2_with fail
  have hz := heap_alloc_new w Z4
  have hzb := (Below.refl w.heap.size w).alloc (Nat.le_refl _) Z4
  have hS0 := HS.out.new hzb
  unfold Z4 at hz hzb hS0
  generalize w.alloc (Obj.cells #[.int .i64 0, .string ⟨#[]⟩, .string ⟨#[]⟩, .string ⟨#[]⟩] TT) = w0 at hz hzb hS0 ⊢
  obtain ⟨k0, k1, k2, k3, f0, f1, f2, f3⟩ := blk4 (x0 := .int .i64 0) (x1 := .string ⟨#[]⟩) (x2 := .string ⟨#[]⟩) (x3 := .string ⟨#[]⟩) hz
  have HZ : Hid (Blk w0 w.heap.size [.int .i64 0, .string ⟨#[]⟩, .string ⟨#[]⟩, .string ⟨#[]⟩] TT) := hid hz
  have HB := hid hzb
  have HS1 := hid hS0
  clear hz hzb hS0 HS
  go_loopw [6] (fun vi wr => ∃ i : Nat, vi = .int .i64 i ∧ i ≤ s.length ∧ wr = w0 ∧ Hid (∀ x (hx : x < s.length), x < i → (s[x]).1 ≠ v)) (fun vi _ => s.length + 1 - (intOf vi).toNat)
  case atStart => exact ⟨0, rfl, Nat.zero_le _, rfl, hid (fun x _ h => by omega)⟩
  case round =>
    obtain ⟨i, rfl, hi, rfl, H1⟩ := hrel
    by_cases hil : i < s.length
    · have hil2 : (i : Int) < (s.length : Int) := by omega
      obtain ⟨b, off, rfl, c0, c1, c2, c3, c4⟩ := HS1.out.at hil
      by_cases he : (s[i]).1 = v
      · have he2 : ((s[i]).1 == v) = true := by rw [beq_iff_eq]; exact he
        have HG := hid (getP_at hil H1.out he)
        clear he
        go_wp2_with fail
        have hfin := set4 HZ.out (s[i]).2
        refine bodyPost_ret (results_row_tmp rfl _ _ w.heap.size TT _ (0, 0) _ rfl hfin Try.underlying36 rfl (by kernel_rfl)) rfl ?_
        refine ⟨?_, (((HB.out.setCell (Nat.le_refl _) _).setCell (Nat.le_refl _) _).setCell (Nat.le_refl _) _).setCell (Nat.le_refl _) _⟩
        unfold getT
        rw [HG.out]
        rfl
      · have he2 : ((s[i]).1 == v) = false := by rw [beq_eq_false_iff_ne]; exact he
        have HE := hid he
        clear he
        go_wp2_with fail
        go_roundw
        case rel => exact ⟨i + 1, by go_num, by omega, by first | exact rfl | exact trivial, hid (fun x hx h => by
          rcases Nat.lt_or_ge x i with h' | h'
          · exact H1.out x hx h'
          · have : x = i := by omega
            subst this; exact HE.out)⟩
        case measure => simp [intOf]; omega
    · have hil2 : ¬ (i : Int) < (s.length : Int) := by omega
      have HG := hid (getP_none (v := v) (s := s) (fun x hx => H1.out x hx (by omega)))
      go_wp2_with fail
      have hfin := set4 HZ.out (0, [], [], [])
      refine bodyPost_ret (results_row_tmp rfl _ _ w.heap.size TT _ (0, 0) _ rfl hfin Try.underlying36 rfl (by kernel_rfl)) rfl ?_
      refine ⟨?_, (((HB.out.setCell (Nat.le_refl _) _).setCell (Nat.le_refl _) _).setCell (Nat.le_refl _) _).setCell (Nat.le_refl _) _⟩
      unfold getT
      rw [HG.out]
      rfl
end Go.Proofs.Ytkhdadbbgfjcgaa
