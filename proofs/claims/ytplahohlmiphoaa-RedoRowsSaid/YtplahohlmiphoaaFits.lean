/- triadref3.fits: may pages be written? -/
import Derived.Test.YtplahohlmiphoaaChk
import Derived.Test.YtplahohlmiphoaaSame
namespace Go.Proofs.Ytplahohlmiphoaa
open Go.RowKit
set_option linter.unusedVariables false

theorem IsPuts.at {w wr : World} {fp : Nat → Prop} {ab ao : Nat} {ls : List (Int × List UInt8)} (h : IsPuts w fp (some ⟨ab, ao, none⟩) ls) (hb : Below w.heap.size w wr) {j : Nat} {q : Int × List UInt8} (hq : ls[j]? = some q) :
    ∃ p c, wr.cell? ⟨ab, ao + j * 2, none⟩ = some (.int .i64 q.1) ∧ wr.cell? ⟨ab, ao + j * 2 + 1, none⟩ = some (.slice p q.2.length c) ∧ Far wr fp (.slice p q.2.length c) q.2 := by
  have hlt := (List.getElem?_eq_some_iff.1 hq).1
  obtain ⟨ab', ao', q', p, c, he, hq', k0, k1, hf⟩ := h j hlt
  cases he
  have e : q' = q := Option.some.inj (hq'.symm.trans hq)
  subst e
  have hab : ab < w.heap.size := World.block_lt_of_cell? w ⟨ab, ao + j * 2, none⟩ k0
  refine ⟨p, c, (hb.cell (p := ⟨ab, ao + j * 2, none⟩) hab).trans k0, (hb.cell (p := ⟨ab, ao + j * 2 + 1, none⟩) hab).trans k1, ?_⟩
  refine ⟨(hf.1.chg (Chg.new hb NoFp) (fun _ _ _ _ h => h)), hf.2⟩

theorem IsPuts.addr {w : World} {fp : Nat → Prop} {a : Option Addr} {ls : List (Int × List UInt8)} (h : IsPuts w fp a ls) (hl : ¬ ls.length = 0) : ∃ ab ao, a = some ⟨ab, ao, none⟩ := by
  obtain ⟨ab, ao, _, _, _, rfl, _⟩ := h 0 (by omega)
  exact ⟨ab, ao, rfl⟩

theorem any_false_of {l : List (Int × List UInt8)} {a : Int} (h : ∀ (k : Nat) (p : Int × List UInt8), l[k]? = some p → ¬ p.1 = a) : l.any (fun p => p.1 == a) = false := by
  rw [List.any_eq_false]
  intro x hx
  obtain ⟨k, hk, rfl⟩ := List.mem_iff_getElem.1 hx
  have := h k _ (List.getElem?_eq_getElem hk)
  simpa using this

set_option maxRecDepth 100000 in
set_option maxHeartbeats 4000000 in
theorem fits_any (w : World) (d : Nat) (fp fq : Nat → Prop) (n : Nat) (s : DS) (a : Option Addr) (c : Nat) (ls : List (Int × List UInt8)) (h : XDk w d fp n s) (hp : IsPuts w fq a ls) (hl : ls.length ≤ 1000) (hb : ∀ q ∈ ls, q.2.length ≤ 1000) :
    Calls Try.prog 53 #[.pointer (some ⟨d, 0, none⟩), .slice a ls.length c] w fun e w' => e = .returned (.int .i64 (chk n ls)) ∧ Below w.heap.size w w' := by
  have H := hid h
  have HP := hid hp
  have HB := hid hb
  clear h hp hb
  by_cases h0 : ls.length = 0
  · have he : chk n ls = 1 := if_pos h0
    rw [he]
    go_enter Try.func53, Try.ntmps53
    go_wp2_with fail
    go_ret
    exact ⟨rfl, Below.refl _ _⟩
  · obtain ⟨ab, ao, rfl⟩ := HP.out.addr h0
    by_cases h4 : 400 < ls.length
    · have he : chk n ls = 4 := by unfold chk; rw [if_neg h0, if_pos h4]
      have h0' : ((ls.length : Int) == 0) = false := by simpa using h0
      have h4' : decide ((400 : Int) < (ls.length : Int)) = true := by simp; omega
      rw [he]
      clear h0
      go_enter Try.func53, Try.ntmps53
      go_wp2_with fail
      go_ret
      exact ⟨rfl, Below.refl _ _⟩
    · have he : Hid (chk n ls = scanPuts n [] ls) := hid (by unfold chk; rw [if_neg h0, if_neg h4])
      have h0' : ((ls.length : Int) == 0) = false := by simpa using h0
      have h4' : decide ((400 : Int) < (ls.length : Int)) = false := by simp; omega
      rw [he.out]
      clear h0 h4
      go_enter Try.func53, Try.ntmps53
      go_wp2_with fail
      go_loopw [5] (fun i wr => ∃ (j : Nat), j ≤ ls.length ∧ i = .int .i64 j ∧ Below w.heap.size w wr ∧ scanPuts n [] ls = scanPuts n (ls.take j) (ls.drop j)) (fun i _ => ls.length + 1 - (intOf i).toNat)
      case atStart => exact ⟨0, Nat.zero_le _, rfl, Below.refl _ _, rfl⟩
      case round =>
        obtain ⟨j, hj, rfl, hbel, hsc⟩ := hrel
        have BE := hid hbel
        have SC := hid hsc
        clear hbel hsc
        by_cases hlt : j < ls.length
        · obtain ⟨q, hq⟩ : ∃ q, ls[j]? = some q := ⟨_, List.getElem?_eq_getElem hlt⟩
          obtain ⟨p, pc, k0, k1, hfar⟩ := HP.out.at BE.out hq
          have SC1 := hid (SC.out.trans (scanPuts_step hq))
          have HQ := hid hq
          have hqb := HB.out q (List.mem_of_getElem? hq)
          have DA := hid (H.out.chg (Chg.new BE.out NoFp) (fun _ _ h => h))
          clear hq SC hfar
          by_cases h1 : q.1 < 401
          · have hd1 : decide (q.1 < 401) = true := by simpa using h1
            have hbad : Hid (scanPuts n [] ls = 1) := hid (by rw [SC1.out, if_neg]; simp [okAt]; omega)
            clear h1
            go_wp2_with fail
            go_quiet (refine Calls.quiet_of_same (turn (xSize_any _ d fp n s (DA.out.chg (Chg.drewN NoFp _ _) (fun _ _ h => h)))))
            go_wp2_with fail
            go_ret
            rw [hbad.out]
            exact ⟨rfl, below_drewN BE.out _⟩
          · have hd1 : decide (q.1 < 401) = false := by simpa using h1
            by_cases h2 : (n : Int) ≤ q.1
            · have hd2 : decide ((n : Int) ≤ q.1) = true := by simpa using h2
              have hbad : Hid (scanPuts n [] ls = 1) := hid (by rw [SC1.out, if_neg]; simp [okAt]; omega)
              clear h1 h2
              go_wp2_with fail
              go_quiet (refine Calls.quiet_of_same (turn (xSize_any _ d fp n s (DA.out.chg (Chg.drewN NoFp _ _) (fun _ _ h => h)))))
              go_wp2_with fail
              go_ret
              rw [hbad.out]
              exact ⟨rfl, below_drewN BE.out _⟩
            · have hd2 : decide ((n : Int) ≤ q.1) = false := by simpa using h2
              by_cases h3 : 504 < q.2.length
              · have hd5 : decide ((504 : Int) < (q.2.length : Int)) = true := by simp; omega
                have hbad : Hid (scanPuts n [] ls = 1) := hid (by rw [SC1.out, if_neg]; simp [okAt]; omega)
                clear h1 h2 h3
                go_wp2_with fail
                go_quiet (refine Calls.quiet_of_same (turn (xSize_any _ d fp n s (DA.out.chg (Chg.drewN NoFp _ _) (fun _ _ h => h)))))
                go_wp2_with fail
                go_ret
                rw [hbad.out]
                exact ⟨rfl, below_drewN BE.out _⟩
              · have hd5 : decide ((504 : Int) < (q.2.length : Int)) = false := by simp; omega
                have H123 : Hid (¬ q.1 < 401 ∧ ¬ (n : Int) ≤ q.1 ∧ ¬ 504 < q.2.length) := hid ⟨h1, h2, h3⟩
                clear h1 h2 h3
                go_wp2_with fail
                go_quiet (refine Calls.quiet_of_same (turn (xSize_any _ d fp n s (DA.out.chg (Chg.drewN NoFp _ _) (fun _ _ h => h)))))
                go_wp2_with fail
                have B1 := hid (below_drewN BE.out nq)
                clear k0 k1 BE DA hd1 hd2 hd5
                go_loopw [6] (fun i wx => ∃ (k : Nat), k ≤ j ∧ i = .int .i64 k ∧ Below w.heap.size w wx ∧ ∀ (m : Nat) (p : Int × List UInt8), m < k → ls[m]? = some p → ¬ p.1 = q.1) (fun i _ => j + 1 - (intOf i).toNat)
                case atStart => exact ⟨0, Nat.zero_le _, rfl, B1.out, fun m p hm => by omega⟩
                case round =>
                  obtain ⟨k, hk, rfl, hbel, hno⟩ := hrel
                  have BE := hid hbel
                  have NO := hid hno
                  clear hbel hno
                  obtain ⟨p, pc, k0, k1, hfar⟩ := HP.out.at BE.out HQ.out
                  clear hfar
                  by_cases hlt2 : k < j
                  · obtain ⟨q2, hq2⟩ : ∃ q, ls[k]? = some q := ⟨_, List.getElem?_eq_getElem (by omega)⟩
                    obtain ⟨p2, pc2, m0, m1, hfar⟩ := HP.out.at BE.out hq2
                    have HQ2 := hid hq2
                    have hlk : k < ls.length := by omega
                    clear hfar hq2
                    generalize he : (q2.1 == q.1) = bb
                    have HE := hid he
                    cases bb with
                    | true =>
                      have hbad : Hid (scanPuts n [] ls = 1) := hid (by
                        have hany : (ls.take j).any (fun p => p.1 == q.1) = true := by
                          rw [List.any_eq_true]
                          refine ⟨q2, ?_, HE.out⟩
                          apply List.mem_of_getElem? (i := k)
                          rw [List.getElem?_take, if_pos hlt2]; exact HQ2.out
                        rw [SC1.out, if_neg]; simp [okAt, hany])
                      go_wp2_with fail
                      go_quiet (fail)
                      go_wp2_with fail
                      go_ret
                      rw [hbad.out]
                      exact ⟨rfl, below_drewN BE.out _⟩
                    | false =>
                      go_wp2_with fail
                      go_quiet (fail)
                      go_wp2_with fail
                      go_roundw
                      case rel =>
                        refine ⟨k + 1, by omega, by go_num, below_drewN BE.out _, fun m p hm hp => ?_⟩
                        rcases Nat.lt_or_ge m k with h | h
                        · exact NO.out m p h hp
                        · obtain rfl : m = k := by omega
                          have e : p = q2 := Option.some.inj (hp.symm.trans HQ2.out)
                          subst e
                          simpa using HE.out
                      case measure => simp [intOf]; omega
                  · obtain rfl : k = j := by omega
                    have hok : Hid (scanPuts n [] ls = scanPuts n (ls.take (k + 1)) (ls.drop (k + 1))) := hid (by
                      have hany : (ls.take k).any (fun p => p.1 == q.1) = false := any_false_of (fun m p hp => by
                        rw [List.getElem?_take] at hp
                        split at hp
                        · exact NO.out m p (by assumption) hp
                        · cases hp)
                      have := H123.out
                      rw [SC1.out, if_pos]
                      rw [okAt, hany]
                      simp
                      omega)
                    go_wp2_with fail
                    go_roundw
                    case rel => exact ⟨k + 1, by omega, by go_num, BE.out, hok.out⟩
                    case measure => simp [intOf]; omega
        · obtain rfl : j = ls.length := by omega
          have he : Hid (scanPuts n [] ls = 0) := hid (by rw [SC.out, List.drop_of_length_le (Nat.le_refl _)]; rfl)
          go_wp2_with fail
          go_ret
          rw [he.out]
          exact ⟨rfl, BE.out⟩
end Go.Proofs.Ytplahohlmiphoaa
