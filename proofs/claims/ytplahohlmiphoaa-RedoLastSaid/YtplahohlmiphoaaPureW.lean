/- homes as rows of texts; again and again without power: pure laws. -/
import Derived.Test.YtplahohlmiphoaaWalkRedoOps
namespace Go.Proofs.Ytplahohlmiphoaa
open Go.RowKit
set_option linter.unusedVariables false

theorem Rest.stop {n : Nat} {s : DS} {F : List UInt8} (h : Rest n s F) (m : Int) : Rest n { s with stop := m } F := ⟨h.alive, h.since, h.now, h.kept, h.len⟩

def setHome (A : List (List UInt8)) (q : Int × List UInt8) : List (List UInt8) := A.set (q.1 - 401).toNat (pad q.2)
def afterOf (G : List (Int × List UInt8)) (A : List (List UInt8)) : List (List UInt8) := G.foldl setHome A
theorem setHome_length (A : List (List UInt8)) (q : Int × List UInt8) : (setHome A q).length = A.length := by simp [setHome]
theorem afterOf_length (G : List (Int × List UInt8)) : ∀ A : List (List UInt8), (afterOf G A).length = A.length := by
  induction G with
  | nil => intro A; rfl
  | cons q r ih => intro A; exact (ih _).trans (setHome_length A q)
theorem afterOf_take {G : List (Int × List UInt8)} {A : List (List UInt8)} {j : Nat} {q : Int × List UInt8} (h : G[j]? = some q) : afterOf (G.take (j + 1)) A = setHome (afterOf (G.take j) A) q := by
  unfold afterOf
  rw [List.take_add_one, h, List.foldl_append]
  rfl
theorem afterOf_get {k : Nat} {b : List UInt8} : ∀ (G : List (Int × List UInt8)) (A : List (List UInt8)), (∀ q ∈ G, 401 ≤ q.1) → (∀ q ∈ G, q.1 = 401 + (k : Int) → pad q.2 = b) → k < A.length → (A[k]? = some b ∨ ∃ q ∈ G, q.1 = 401 + (k : Int)) → (afterOf G A)[k]? = some b
  | [], A, h0, h1, hk, h => by
    rcases h with h | ⟨q, hq, _⟩
    · exact h
    · cases hq
  | q :: r, A, h0, h1, hk, h => by
    show (afterOf r (setHome A q))[k]? = some b
    have hq0 := h0 q (List.mem_cons_self ..)
    refine afterOf_get r _ (fun x hx => h0 x (List.mem_cons_of_mem _ hx)) (fun x hx => h1 x (List.mem_cons_of_mem _ hx)) (by rw [setHome_length]; exact hk) ?_
    unfold setHome
    by_cases e : q.1 = 401 + (k : Int)
    · left
      rw [show (q.1 - 401).toNat = k by omega, List.getElem?_set_self hk, h1 q (List.mem_cons_self ..) e]
    · rw [List.getElem?_set_ne (by omega)]
      rcases h with h | ⟨x, hx, hk2⟩
      · exact .inl h
      · rcases List.mem_cons.1 hx with rfl | hx
        · exact absurd hk2 e
        · exact .inr ⟨x, hx, hk2⟩

theorem homesL_get {n k : Nat} {F : List UInt8} (h : k < n - 401) : (homesL n F)[k]? = some (row F (401 + k)) := by
  unfold homesL
  rw [List.getElem?_map, List.getElem?_range h]
  rfl
theorem homesL_ext {n : Nat} {F F' : List UInt8} (h : ∀ k, 401 ≤ k → k < n → row F k = row F' k) : homesL n F = homesL n F' := by
  unfold homesL
  apply List.map_congr_left
  intro i hi
  have := List.mem_range.1 hi
  exact h _ (by omega) (by omega)
theorem homes_PA {n : Nat} {K F : List UInt8} (h : PA n K F) : homesL n F = homesL n K := homesL_ext h.2
theorem homes_PC {n : Nat} {G : List (Int × List UInt8)} {K F : List UInt8} (lok : LOk n G) (h : PC n G K F) : homesL n F = afterOf G (homesL n K) := by
  apply List.ext_getElem?
  intro k
  rcases Nat.lt_or_ge k (n - 401) with hk | hk
  · rw [homesL_get hk, h.2 (401 + k) (by omega) (by omega)]
    symm
    refine afterOf_get G _ (fun q hq => (lok.each q hq).1) (fun q hq he => (haf_in lok hq (by rw [he]; omega)).symm) (by rw [homesL_length]; exact hk) ?_
    by_cases hin : ∃ q ∈ G, q.1 = 401 + (k : Int)
    · exact .inr hin
    · left
      rw [homesL_get hk, haf_out (fun q hq he => hin ⟨q, hq, by rw [he]; omega⟩)]
  · rw [List.getElem?_eq_none (by rw [homesL_length]; exact hk), List.getElem?_eq_none (by rw [afterOf_length, homesL_length]; exact hk)]

/-- where a disk is, behind crashes; dn: was the commit whole? -/
def WI (G : List (Int × List UInt8)) (K : List UInt8) (dn : Bool) (s : DS) : Prop := ∃ F, Rest 420 s F ∧ PAny 420 G K F ∧ (dn = true → PC 420 G K F)

theorem whole_com {G : List (Int × List UInt8)} {K : List UInt8} (lok : LOk 420 G) {s : DS} (hs : Rest 420 s K) (h0 : row K 0 = z512) (m : Int) (keep : List Bool) :
    WI G K ((cmt 420 { s with stop := m } G).2 == 0) (dCrash (cmt 420 { s with stop := m } G).1 keep) := by
  obtain ⟨h1, _⟩ := com_run lok (hs.stop m) h0
  generalize cmt 420 { s with stop := m } G = r at *
  rcases h1 with ⟨e0, F, hr, hpc⟩ | ⟨e13, hcr⟩
  · exact ⟨F, (hr.crash keep).1, .inr (.inr hpc), fun _ => hpc⟩
  · obtain ⟨F', hP, hr, _⟩ := hcr.crash keep
    exact ⟨F', hr, hP, fun h => by rw [e13] at h; cases h⟩

theorem whole_rec {G : List (Int × List UInt8)} {K : List UInt8} (lok : LOk 420 G) {dn : Bool} {s : DS} (h : WI G K dn s) (m : Int) (keep : List Bool) :
    WI G K dn (dCrash (recov 420 { s with stop := m }).1 keep) ∧ (recov 420 { s with stop := m }).1.ops ≤ s.ops + 500 := by
  obtain ⟨F, hr, hP, hd⟩ := h
  have hr2 := hr.stop m
  have rested : row F 0 = z512 → WI G K dn (dCrash (recov 420 { s with stop := m }).1 keep) ∧ (recov 420 { s with stop := m }).1.ops ≤ s.ops + 500 := fun hz => by
    rw [recov_rest hr2 hz]
    exact ⟨⟨F, (hr2.crash keep).1, hP, hd⟩, by show s.ops ≤ _; omega⟩
  rcases hP with hA | hB | hC
  · exact rested hA.1
  · have hdn : dn = false := by
      cases dn with
      | false => rfl
      | true =>
        have h1 := (hd rfl).1
        rw [hB.1] at h1
        exact absurd h1 (fun h => by
          have h2 := congrArg (List.take 8) h
          rw [z512_take] at h2
          unfold headB at h2
          rw [pad_take (show markB.length = 8 from rfl)] at h2
          exact absurd h2 (by decide))
    obtain ⟨h1, h2, h3⟩ := rec_run lok (by omega) hr2 hB
    refine ⟨?_, h3⟩
    rcases h1 with ⟨_, _, F', hr', hpc⟩ | ⟨_, _, hcr⟩
    · exact ⟨F', (hr'.crash keep).1, .inr (.inr hpc), fun _ => hpc⟩
    · obtain ⟨F', hP', hr', _⟩ := hcr.crash keep
      exact ⟨F', hr', hP', fun h => by rw [hdn] at h; cases h⟩
  · exact rested hC.1

theorem whole_end {G : List (Int × List UInt8)} {K : List UInt8} (lok : LOk 420 G) {dn : Bool} {s : DS} (h : WI G K dn s) (hst : s.stop < 1) :
    (recov 420 s).2.2 = 0 ∧ ∃ F, Rest 420 (recov 420 s).1 F ∧ (homesL 420 F = afterOf G (homesL 420 K) ∨ (dn = false ∧ homesL 420 F = homesL 420 K)) := by
  obtain ⟨F, hr, hP, hd⟩ := h
  rcases hP with hA | hB | hC
  · rw [recov_rest hr hA.1]
    refine ⟨rfl, F, hr, ?_⟩
    cases dn with
    | false => exact .inr ⟨rfl, homes_PA hA⟩
    | true => exact .inl (homes_PC lok (hd rfl))
  · obtain ⟨h1, h2, h3⟩ := rec_run lok (by omega) hr hB
    have h4 := (h2 hst).1
    rcases h1 with ⟨_, _, F', hr', hpc⟩ | ⟨e, _⟩
    · exact ⟨h4, F', hr', .inl (homes_PC lok hpc)⟩
    · omega
  · rw [recov_rest hr hC.1]
    exact ⟨rfl, F, hr, .inl (homes_PC lok hC)⟩
end Go.Proofs.Ytplahohlmiphoaa
