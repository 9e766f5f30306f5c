/- triadref16.Same (printed by gen_solsame.py). -/
import Derived.Test.YtkhdadbbgfjcgaaSolH
namespace Go.Proofs.Ytkhdadbbgfjcgaa
open Go.RowKit Go.Maps
set_option linter.unusedVariables false

instance decPr : DecidableEq Pr := inferInstance
instance decSl : DecidableEq Sl := inferInstance
def pLits (p : Pr) : List Lit := .string p.1 :: tLits p.2
theorem pLits_inj {a b : Pr} : pLits a = pLits b ↔ a = b := by
  unfold pLits
  rw [List.cons.injEq, tLits_inj]
  obtain ⟨a1, a2⟩ := a
  obtain ⟨b1, b2⟩ := b
  simp
theorem str_lit3 (l : List UInt8) (h : l.length ≤ 100) : Try.prog.keyLits 3 9 [.string (B l)] = some [.string l] := by
  unfold Program.keyLits
  simp only [Try.underlying9]
  rw [if_pos (by rw [B_size]; simp only [maxLen]; omega), B_data]
theorem cellsP : Try.prog.cellsOf TP = 5 := by kernel_rfl
theorem p_lits {p : Pr} (hn : p.1.length ≤ 100) (ok : OkT p.2) : Try.prog.keyLits 4 TP (pc p) = some (pLits p) := by
  unfold Program.keyLits
  simp only [Try.underlying38]
  rw [cellsP, if_pos ⟨rfl, by kernel_rfl⟩]
  have e1 : ((pc p).drop 0).take 1 = [.string (B p.1)] := rfl
  have e2 : ((pc p).drop 1).take 4 = tc p.2 := rfl
  simp only [List.mapM_cons, List.mapM_nil, cellsStr, cellsT, e1, e2, str_lit3 _ hn, t_lits ok]
  simp [pLits]
theorem p_formed (p : Pr) : (pv p).formed Try.prog TP = true := by
  unfold Value.formed
  rw [Try.underlying38]
  simp only [List.size_toArray, pc_length, cellsP]
  rfl
theorem pKey : Try.prog.keyTypeAt 4 TP = true := by kernel_rfl
theorem p_equal {a b : Pr} (na : a.1.length ≤ 100) (nb : b.1.length ≤ 100) (oa : OkT a.2) (ob : OkT b.2) (w : World) : (Op.equal TP (pv a) (pv b)).run Try.prog w = .ok (a == b) w := by
  obtain ⟨r, hr, hiff⟩ := run_equalIn_deep (P := Try.prog) 9996 4 TP pKey w 4 4 (pv a) (pv b) (pLits a) (pLits b) (p_formed a) (p_formed b) (p_lits na oa) (p_lits nb ob)
  have e : r = (a == b) := by
    rw [Bool.eq_iff_iff, hiff, pLits_inj, beq_iff_eq]
  rw [← e]
  exact hr
theorem pGuard : Try.prog.eqGuardType Try.prog.depth TP = false := by kernel_rfl
theorem p_guard (op : BinOp) (hop : op = .neq ∨ op = .eql) (x y : Operand) (a b : Array Value) (w : World) : (eqGuard op TP x y (.agg a) (.agg b)).run Try.prog w = .ok () w := by
  unfold eqGuard
  rcases hop with rfl | rfl <;> simp only [Bool.not_true, Bool.false_eq_true, if_false, Sem.run_bind, Sem.run_pure, Result.andThen_ok, run_program, pGuard, Bool.not_false, if_true]
theorem run_p_neq {w : World} {a b : Pr} (na : a.1.length ≤ 100) (nb : b.1.length ≤ 100) (oa : OkT a.2) (ob : OkT b.2) : (binOp .neq TP (.agg #[.string (B a.1), .int .i64 a.2.1, .string (B a.2.2.1), .string (B a.2.2.2.1), .string (B a.2.2.2.2)]) (.agg #[.string (B b.1), .int .i64 b.2.1, .string (B b.2.2.1), .string (B b.2.2.2.1), .string (B b.2.2.2.2)])).run Try.prog w = .ok (.bool (!(a == b))) w := by
  have h := p_equal na nb oa ob w
  show (binOp .neq TP (pv a) (pv b)).run Try.prog w = _
  simp only [binOp, Sem.run_bind, h, Result.andThen_ok, Sem.run_pure]
theorem guard_p (x y : Operand) (a b : Array Value) (w : World) : (eqGuard .neq TP x y (.agg a) (.agg b)).run Try.prog w = .ok () w := p_guard .neq (.inl rfl) x y a b w

theorem CellsAt.lt {w : World} {g o : Nat} {p : Pr} (h : CellsAt w g o p) : g < w.heap.size := World.block_lt_of_cell? w _ h.1
theorem take_succ_eq {α : Type} {a b : List α} {i : Nat} (ha : i < a.length) (hb : i < b.length) (h : a.take i = b.take i) (h1 : a[i] = b[i]) : a.take (i + 1) = b.take (i + 1) := by
  rw [List.take_add_one, List.take_add_one, h, List.getElem?_eq_getElem ha, List.getElem?_eq_getElem hb, h1]

set_option maxRecDepth 100000 in
set_option maxHeartbeats 4000000 in
theorem same_any (a b : List Sl) (va vb : Value) (w : World) (n : Nat) (ha : SolsAt w va a) (hb : SolsAt w vb b) (oa : ∀ s ∈ a, OkS n s) (ob : ∀ s ∈ b, OkS n s) (hn : n ≤ 1000) (hal : a.length ≤ 100000) (hbl : b.length ≤ 100000) :
    Calls Try.prog 14 #[va, vb] w fun e w' => e = .returned (.bool (decide (a = b))) ∧ Below w.heap.size w w' := by
  obtain ⟨pa, ca, rfl⟩ := ha.shape
  obtain ⟨pb, cb, rfl⟩ := hb.shape
  have HA := hid ha
  have HBB := hid hb
  have OA := hid oa
  have OB := hid ob
  clear ha hb oa ob
  by_cases hl : a.length = b.length
  case neg =>
    have hl2 : ¬ (a.length : Int) = (b.length : Int) := by omega
    have hne : decide (a = b) = false := decide_eq_false (fun h => hl (by rw [h]))
    have HNE := hid hne
    clear hl hne
    go_enter Try.func14, Try.ntmps14
    go_wp2_with fail
    go_ret
    exact ⟨by rw [HNE.out]; rfl, Below.refl _ _⟩
  have hl2 : (a.length : Int) = (b.length : Int) := by omega
  have HL := hid hl
  go_enter Try.func14, Try.ntmps14
  generalize hna : a.length = na at *
  generalize hnb : b.length = nb at *
  subst hl
  have HNA := hid hna
  have HNB := hid hnb
  clear hna hnb hl2
  go_wp2_with fail
  go_loopw [5] (fun vi wr => ∃ i : Nat, vi = .int .i64 i ∧ i ≤ na ∧ Hid (a.take i = b.take i) ∧ Hid (Below w.heap.size w wr)) (fun vi _ => na + 1 - (intOf vi).toNat)
  case atStart => exact ⟨0, rfl, Nat.zero_le _, rfl, Below.refl _ _⟩
  case round =>
    obtain ⟨i, rfl, hi, HT, HB⟩ := hrel
    by_cases hlt : i < na
    · have hlt2 : (i : Int) < (na : Int) := by omega
      have hia : i < a.length := by rw [HNA.out]; exact hlt
      have hib : i < b.length := by rw [HNB.out]; exact hlt
      obtain ⟨ga, fa, ua, rfl, hca, hsa⟩ := (HA.out.new HB.out).get hia
      obtain ⟨gb, fb, ub, rfl, hcb, hsb⟩ := (HBB.out.new HB.out).get hib
      obtain ⟨qa, da, rfl⟩ := hsa.shape
      obtain ⟨qb, db, rfl⟩ := hsb.shape
      obtain ⟨x, hx⟩ : ∃ x, a[i] = x := ⟨_, rfl⟩
      obtain ⟨y, hy⟩ : ∃ y, b[i] = y := ⟨_, rfl⟩
      have HOX := hid (show OkS n x by rw [← hx]; exact OA.out _ (List.getElem_mem hia))
      have HOY := hid (show OkS n y by rw [← hy]; exact OB.out _ (List.getElem_mem hib))
      rw [hx] at hca hsa
      rw [hy] at hcb hsb
      have HSA := hid hsa
      have HSB := hid hsb
      have HCC := hid (And.intro hca hcb)
      have HXY := hid (show x ≠ y → decide (a = b) = false from fun h => decide_eq_false (fun e => h (by subst e; rw [← hx, ← hy])))
      have HSU := hid (show x = y → a.take (i + 1) = b.take (i + 1) from fun h => take_succ_eq hia hib HT.out (by rw [hx, hy, h]))
      clear hsa hsb hx hy hia hib
      go_wp2_with fail
      refine wp_region_plan2 (fun w' => w'.cell? ⟨ga, fa + i, none⟩ = some (.slice qa x.length da) ∧ w'.cell? ⟨gb, fb + i, none⟩ = some (.slice qb y.length db)) (fun j => true) (fun j => [3, 8].contains j) (fun j => false)
        [0, 1, 2, 3, 4, 5, 6, 7, 8, 9, 10] (by kernel_rfl) (by kernel_rfl) rfl (by kernel_rfl) (by kernel_rfl) HCC.out ?_
      iterate 11 (apply wpPlan2_val; (case ho => rfl); (case hst => rfl); (case hw => rfl); (case hv => intro w' hS; first | (obtain ⟨ca, cb⟩ := hS rfl; go_simp; first | done | rfl) | (clear hS; go_simp; first | done | rfl)); intro K hK; go_simp; refine hK _ ?_; clear hK K)
      refine wpPlan2_nil ?_
      simp only [Qn]
      by_cases hxl : x.length = y.length
      case neg =>
        have hxl2 : ¬ (x.length : Int) = (y.length : Int) := by omega
        have HN := hid (HXY.out (fun h => hxl (by rw [h])))
        clear hxl
        go_wp2_with fail
        go_ret
        exact ⟨by rw [HN.out]; rfl, HB.out.drew⟩
      have hxl2 : (x.length : Int) = (y.length : Int) := by omega
      have HXL := hid hxl
      clear hxl
      obtain ⟨nx, hnx⟩ : ∃ nx, x.length = nx := ⟨_, rfl⟩
      have hny : y.length = nx := by rw [← HXL.out, hnx]
      rw [hnx] at hca ⊢
      rw [hny] at hcb ⊢
      have hnxb : nx ≤ 1000 := by have := HOX.out.len; omega
      have HNX := hid hnx
      have HNY := hid hny
      have HSA2 := hid HSA.out
      rw [hnx] at HSA2
      have HSB2 := hid HSB.out
      rw [hny] at HSB2
      clear hnx hny hxl2 HXL HSA HSB HCC
      simp only [bne_self_eq_false]
      have HWD : Hid (Below w.heap.size w wr.drew) := hid HB.out.drew
      have hcd : wr.drew.cell? ⟨ga, fa + i, none⟩ = some (.slice qa nx da) := hca
      have hce : wr.drew.cell? ⟨gb, fb + i, none⟩ = some (.slice qb nx db) := hcb
      clear hca hcb
      have HSA3 : Hid (SolAt wr.drew (.slice qa nx da) x) := HSA2
      have HSB3 : Hid (SolAt wr.drew (.slice qb nx db) y) := HSB2
      clear HSA2 HSB2
      generalize hwd : wr.drew = wd at *
      clear hwd
      have HCD := hid (And.intro hcd hce)
      have hgd : ga < wd.heap.size := World.block_lt_of_cell? wd _ hcd
      have hge : gb < wd.heap.size := World.block_lt_of_cell? wd _ hce
      clear hcd hce
      go_wp2_with fail
      go_loopw [6] (fun vk w2 => ∃ k : Nat, vk = .int .i64 k ∧ k ≤ nx ∧ Hid (x.take k = y.take k) ∧ Hid (Below wd.heap.size wd w2)) (fun vk _ => nx + 1 - (intOf vk).toNat)
      case atStart => exact ⟨0, rfl, Nat.zero_le _, rfl, Below.refl _ _⟩
      case round =>
        obtain ⟨k, rfl, hk, HK, HB2⟩ := hrel
        have hcd : wr.cell? ⟨ga, fa + i, none⟩ = some (.slice qa nx da) := (HB2.out.cell (p := ⟨ga, fa + i, none⟩) hgd).trans HCD.out.1
        have hce : wr.cell? ⟨gb, fb + i, none⟩ = some (.slice qb nx db) := (HB2.out.cell (p := ⟨gb, fb + i, none⟩) hge).trans HCD.out.2
        by_cases hkl : k < nx
        · have hkl2 : (k : Int) < (nx : Int) := by omega
          have hkx : k < x.length := by rw [HNX.out]; exact hkl
          have hky : k < y.length := by rw [HNY.out]; exact hkl
          obtain ⟨gx, fx, rfl, _⟩ := HSA3.out.cells (by omega)
          obtain ⟨gy, fy, rfl, _⟩ := HSB3.out.cells (by omega)
          have hcx := (HSA3.out.new HB2.out).cellsAt hkx
          have hcy := (HSB3.out.new HB2.out).cellsAt hky
          have hox := HOX.out.ok _ (List.getElem_mem hkx)
          have hoy := HOY.out.ok _ (List.getElem_mem hky)
          obtain ⟨p, hp⟩ : ∃ p, x[k] = p := ⟨_, rfl⟩
          obtain ⟨q, hq⟩ : ∃ q, y[k] = q := ⟨_, rfl⟩
          rw [hp] at hcx hox
          rw [hq] at hcy hoy
          have heq := fun w => run_p_neq (w := w) hox.1 hoy.1 hox.2 hoy.2
          have hgu := guard_p
          have HS := hid (And.intro hcd (And.intro hce (And.intro hcx hcy)))
          have HPQ := hid (show p ≠ q → x ≠ y from fun h e => h (by subst e; rw [← hp, ← hq]))
          have HPS := hid (show p = q → x.take (k + 1) = y.take (k + 1) from fun h => take_succ_eq hkx hky HK.out (by rw [hp, hq, h]))
          clear hcx hcy hox hoy hp hq hkx hky
          by_cases hpq : p = q
          · have hbe : (p == q) = true := by rw [beq_iff_eq]; exact hpq
            have HPE := hid (HPS.out hpq)
            clear hpq
            go_wp2_with fail
            refine wp_region_plan2 (fun w' => w'.cell? ⟨ga, fa + i, none⟩ = some (.slice (some ⟨gx, fx, none⟩) nx da) ∧ w'.cell? ⟨gb, fb + i, none⟩ = some (.slice (some ⟨gy, fy, none⟩) nx db) ∧ CellsAt w' gx (fx + k * 5) p ∧ CellsAt w' gy (fy + k * 5) q) (fun j => true) (fun j => [3, 6, 10, 13].contains j) (fun j => false)
              [0, 1, 2, 3, 4, 5, 6, 7, 8, 9, 10, 11, 12, 13, 14] (by kernel_rfl) (by kernel_rfl) rfl (by kernel_rfl) (by kernel_rfl) HS.out ?_
            iterate 15 (apply wpPlan2_val; (case ho => rfl); (case hst => rfl); (case hw => rfl); (case hv => intro w' hS; first | (obtain ⟨ca, cb, ⟨c0, c1, c2, c3, c4⟩, d0, d1, d2, d3, d4⟩ := hS rfl; go_simp; first | done | rfl) | (clear hS; go_simp; first | done | rfl)); intro K hK; go_simp; refine hK _ ?_; clear hK K)
            refine wpPlan2_nil ?_
            simp only [Qn]
            go_wp2_with fail
            case roundEnd => exact ⟨⟨k + 1, by go_num, by omega, HPE, hid HB2.out.drew⟩, by simp [intOf]; omega⟩
          · have hbe : (p == q) = false := by rw [beq_eq_false_iff_ne]; exact hpq
            have HPE := hid (HXY.out (HPQ.out hpq))
            clear hpq
            go_wp2_with fail
            refine wp_region_plan2 (fun w' => w'.cell? ⟨ga, fa + i, none⟩ = some (.slice (some ⟨gx, fx, none⟩) nx da) ∧ w'.cell? ⟨gb, fb + i, none⟩ = some (.slice (some ⟨gy, fy, none⟩) nx db) ∧ CellsAt w' gx (fx + k * 5) p ∧ CellsAt w' gy (fy + k * 5) q) (fun j => true) (fun j => [3, 6, 10, 13].contains j) (fun j => false)
              [0, 1, 2, 3, 4, 5, 6, 7, 8, 9, 10, 11, 12, 13, 14] (by kernel_rfl) (by kernel_rfl) rfl (by kernel_rfl) (by kernel_rfl) HS.out ?_
            iterate 15 (apply wpPlan2_val; (case ho => rfl); (case hst => rfl); (case hw => rfl); (case hv => intro w' hS; first | (obtain ⟨ca, cb, ⟨c0, c1, c2, c3, c4⟩, d0, d1, d2, d3, d4⟩ := hS rfl; go_simp; first | done | rfl) | (clear hS; go_simp; first | done | rfl)); intro K hK; go_simp; refine hK _ ?_; clear hK K)
            refine wpPlan2_nil ?_
            simp only [Qn]
            go_wp2_with fail
            go_ret
            exact ⟨by rw [HPE.out]; rfl, HWD.out.trans (HB2.out.drew.mono HWD.out.size)⟩
        · have hkl2 : ¬ (k : Int) < (nx : Int) := by omega
          have hxy : x = y := by
            have h := HK.out
            rwa [List.take_of_length_le (by rw [HNX.out]; omega), List.take_of_length_le (by rw [HNY.out]; omega)] at h
          have HXE := hid (HSU.out hxy)
          clear hxy
          go_wp2_with fail
          case roundEnd => exact ⟨⟨i + 1, by go_num, by omega, HXE, hid (HWD.out.trans (HB2.out.mono HWD.out.size))⟩, by simp [intOf]; omega⟩
    · have hlt2 : ¬ (i : Int) < (na : Int) := by omega
      have he : a = b := by
        have h := HT.out
        rwa [List.take_of_length_le (by rw [HNA.out]; omega), List.take_of_length_le (by rw [HNB.out]; omega)] at h
      have HE := hid he
      clear he
      go_wp2_with fail
      go_ret
      exact ⟨by rw [decide_eq_true HE.out]; rfl, HB.out⟩
end Go.Proofs.Ytkhdadbbgfjcgaa
