/- triadlaw4: Few; acts at both; what a transaction without acts has. -/
import Derived.Test.YtiphekepglihlaaSame4
namespace Go.Proofs.Ytiphekepglihlaa
open Go.RowKit Go.Maps
set_option linter.unusedVariables false

def few4 (z : List Act4) : Bool := z.all (fun q => decide (q.b.length ≤ 600)) && decide (z.length ≤ 60)
theorem few4_spec {z : List Act4} (h : few4 z = true) : (∀ q ∈ z, q.b.length ≤ 600) ∧ z.length ≤ 60 := by
  unfold few4 at h
  rw [Bool.and_eq_true] at h
  exact ⟨fun q hq => by simpa using List.all_eq_true.1 h.1 q hq, by simpa using h.2⟩
set_option maxRecDepth 100000 in
theorem few4_any (w : World) (a : Option Addr) (len cap : Nat) (z : List Act4) (h : IsActs4 w a len cap z) :
    Calls Try.prog 28 #[.slice a len cap] w fun e w' => e = .returned (.bool (few4 z)) ∧ w' = w := by
  have H := hid h
  have hlen : len ≤ 9223372036854775807 := by have := h.2.1; simp only [maxLen] at this; omega
  have HL : Hid (z.length = len) := hid h.1
  clear h
  go_enter Try.func28, Try.ntmps28
  go_wp2_with fail
  go_loopw [3] (fun i wr => ∃ j : Nat, j ≤ len ∧ i = .int .i64 j ∧ wr = w ∧ ∀ (m : Nat) (p : Act4), m < j → z[m]? = some p → p.b.length ≤ 600) (fun i _ => len + 1 - (Go.RowKit.intOf i).toNat)
  case atStart => exact ⟨0, Nat.zero_le _, rfl, rfl, fun m p hm => by omega⟩
  case round =>
    obtain ⟨j, hj, rfl, rfl, hno⟩ := hrel
    have NO := hid hno
    clear hno
    by_cases hlt : j < len
    · obtain ⟨ab, ao, q, rfl, hq, pb, cb, k0, k1, k2, hbs, hwf1, hwf2⟩ := H.out.2.2 j hlt
      have HQ := hid hq
      have hql : q.b.length ≤ 9223372036854775807 := by
        obtain ⟨_, p, c, he, h1, h2, _⟩ := hbs
        injection he with _ _ e3
        simp only [maxLen] at h2; omega
      clear hq hbs hwf1 hwf2 k0 k1
      by_cases hl : 600 < q.b.length
      · have hd : decide ((600 : Int) < (q.b.length : Int)) = true := by simp; omega
        have HE : Hid (few4 z = false) := hid (by
          unfold few4
          rw [Bool.and_eq_false_iff]
          left
          rw [List.all_eq_false]
          exact ⟨q, List.mem_of_getElem? HQ.out, by simp; omega⟩)
        go_wp2_with fail
        go_ret
        rw [HE.out]
        exact ⟨rfl, rfl⟩
      · have hd : decide ((600 : Int) < (q.b.length : Int)) = false := by simp; omega
        go_wp2_with fail
        go_roundw
        case rel =>
          refine ⟨j + 1, by omega, by go_num, (by first | exact rfl | exact trivial), fun m p hm hp => ?_⟩
          rcases Nat.lt_or_ge m j with h | h
          · exact NO.out m p h hp
          · obtain rfl : m = j := by omega
            have e : p = q := Option.some.inj (hp.symm.trans HQ.out)
            subst e
            omega
        case measure => simp [Go.RowKit.intOf]; omega
    · obtain rfl : j = len := by omega
      have HE : Hid (few4 z = decide ((j : Int) ≤ 60)) := hid (by
        unfold few4
        have h1 : z.all (fun q => decide (q.b.length ≤ 600)) = true := by
          rw [List.all_eq_true]
          intro q hq
          obtain ⟨i, hi, rfl⟩ := List.mem_iff_getElem.1 hq
          have := NO.out i _ (by rw [← HL.out]; exact hi) (List.getElem?_eq_getElem hi)
          simpa using this
        rw [h1, HL.out, Bool.true_and]
        have e : (j ≤ 60) = ((j : Int) ≤ 60) := by apply propext; omega
        simp only [e])
      go_wp2_with fail
      go_ret
      rw [HE.out]
      exact ⟨rfl, rfl⟩

theorem actP_shut {n : Nat} {m at_ num : Int} {b : List UInt8} {S T : AS} {op : Bool} (h : op = false → T = S) : (actP n m at_ num b S T op).2.2 = false → (actP n m at_ num b S T op).2.1 = (actP n m at_ num b S T op).1 := by
  unfold actP
  split
  · intro h; cases h
  · split
    · intro ho
      have ho : op = false := ho
      subst ho
      exact h rfl
    · split
      · intro ho
        have ho : op = false := ho
        subst ho
        exact h rfl
      · split
        · intro ho
          have ho : op = false := ho
          subst ho
          exact h rfl
        · split
          · intro ho
            have ho : op = false := ho
            subst ho
            exact h rfl
          · split
            · intro _; rfl
            · intro _; rfl
theorem Act4At.keep {w w' : World} {ab off : Nat} {d : Act4} (h : Act4At w ab off d) (hb : Below w.heap.size w w') : ∃ pb cb, w'.cell? ⟨ab, off, none⟩ = some (.int .i64 d.kind) ∧ w'.cell? ⟨ab, off + 1, none⟩ = some (.int .i64 d.num) ∧
    w'.cell? ⟨ab, off + 2, none⟩ = some (.slice pb d.b.length cb) ∧ Bs w' (.slice pb d.b.length cb) d.b ∧ (0 < d.b.length → ∀ g, Value.ownBlock (.slice pb d.b.length cb) = some g → g < w.heap.size) ∧ (Lit.int .i64 d.num).wf = true := by
  obtain ⟨pb, cb, k0, k1, k2, hbs, h1, h2⟩ := h
  have hl := World.block_lt_of_cell? w ⟨ab, off, none⟩ k0
  exact ⟨pb, cb, (hb.cell (p := ⟨ab, off, none⟩) hl).trans k0, (hb.cell (p := ⟨ab, off + 1, none⟩) hl).trans k1, (hb.cell (p := ⟨ab, off + 2, none⟩) hl).trans k2, hbs.new hb, fun hz g hg => Rd.lt hbs hz (by decide) g hg, h2⟩
end Go.Proofs.Ytiphekepglihlaa
