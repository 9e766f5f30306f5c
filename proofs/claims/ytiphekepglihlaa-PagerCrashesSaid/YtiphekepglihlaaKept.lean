/- triadlaw4.PagerKept, PagerFull: what is reckoned; reading operations in drawn regions. -/
import Derived.Test.YtiphekepglihlaaPagX
import Derived.Test.YtiphekepglihlaaArgs
import Derived.Test.YtiphekepglihlaaBodies
namespace Go.Proofs.Ytiphekepglihlaa
open Go.RowKit Go.Maps
set_option linter.unusedVariables false

theorem Bs.upto {w : World} {p : Option Addr} {n c hi : Nat} {l : List UInt8} (h : Bs w (.slice p n c) l) (hh : hi ≤ l.length) : Bs w (.slice p hi c) (l.take hi) := by
  obtain ⟨hl, p0, c0, he, h3, h4, h5, h6⟩ := h
  cases he
  unfold Bs
  rw [List.length_take, Nat.min_eq_left hh]
  refine ⟨by simp; omega, _, _, rfl, by omega, h4, h5, fun a ha j u hu => h6 a ha j u ?_⟩
  rw [← bv_take, List.getElem?_take] at hu
  split at hu
  · exact hu
  · cases hu
theorem IsBodies.new {w w' : World} {a : Option Addr} {len cap : Nat} {zs : List (List UInt8)} (h : IsBodies w a len cap zs) (hb : Below w.heap.size w w') : IsBodies w' a len cap zs :=
  ⟨h.1, h.2.1, fun i hi => by
    obtain ⟨ab, ao, l, p, c, h1, h2, h3, h4⟩ := h.2.2 i hi
    exact ⟨ab, ao, l, p, c, h1, h2, (hb.cell (World.block_lt_of_cell? w _ h3)).trans h3, h4.new hb⟩⟩

/-- the first j pages, as they were put; the root -/
def keptA (zs : List (List UInt8)) (j : Nat) (r : Int) : AS := ⟨fun q => if 1 ≤ q ∧ q ≤ j then some (pad504 (zs.getD (q - 1).toNat [])) else none, [], j, r⟩
theorem keptA_zero (zs : List (List UInt8)) : keptA zs 0 0 = as0 := by
  unfold keptA as0
  congr 1
  funext q
  rw [if_neg (by omega)]
theorem keptA_put {zs : List (List UInt8)} {j : Nat} {l : List UInt8} (hj : j < 18) (hl : zs[j]? = some l) (h5 : l.length ≤ 504) :
    (newO 420 true (keptA zs j 0)).1 = (j : Int) + 1 ∧ (newO 420 true (keptA zs j 0)).2.1 = 0 ∧ putO true (newO 420 true (keptA zs j 0)).2.2 ((j : Int) + 1) l = (0, keptA zs (j + 1) 0) := by
  have e : newO 420 true (keptA zs j 0) = ((j : Int) + 1, 0, { keptA zs j 0 with ever := (j : Int) + 1 }.set ((j : Int) + 1) (some (pad504 []))) := by
    rw [show newO 420 true (keptA zs j 0) = newA 420 (keptA zs j 0) from if_neg (by simp)]
    unfold newA
    rw [show (keptA zs j 0).gone = [] from rfl]
    simp only
    rw [if_pos (show (keptA zs j 0).ever + 1 < ((420 : Nat) : Int) - 401 by show (j : Int) + 1 < _; omega)]
    rfl
  rw [e]
  refine ⟨rfl, rfl, ?_⟩
  rw [show ∀ A k l, putO true A k l = putA A k l from fun A k l => if_neg (by simp)]
  unfold putA
  rw [if_pos (by rw [AS.set_B, if_pos rfl]; rfl), if_neg (by omega)]
  refine congrArg (fun x => ((0 : Int), x)) ?_
  unfold AS.set keptA
  simp only
  congr 1
  funext q
  push_cast
  by_cases e1 : q = (j : Int) + 1
  · rw [if_pos e1, if_pos (by omega), e1, show ((j : Int) + 1 - 1).toNat = j by omega, List.getD_eq_getElem?_getD, hl]
    rfl
  · rw [if_neg e1, if_neg e1]
    by_cases e2 : 1 ≤ q ∧ q ≤ (j : Int)
    · rw [if_pos e2, if_pos (by omega)]
    · rw [if_neg e2, if_neg (by omega)]
theorem keptA_root (zs : List (List UInt8)) (j : Nat) {r : Int} (hr : 0 ≤ r) : rootO true (keptA zs j 0) r = (0, keptA zs j r) := by
  rw [show rootO true (keptA zs j 0) r = rootA (keptA zs j 0) r from if_neg (by simp)]
  unfold rootA
  rw [if_neg (by omega)]
  rfl
theorem keptA_free (zs : List (List UInt8)) (r : Int) : ∀ (m j : Nat), frees (keptA zs j r) m = m - j
  | 0, j => by simp [frees]
  | m + 1, j => by
    have ih := keptA_free zs r m j
    have e : frees (keptA zs j r) (m + 1) = frees (keptA zs j r) m + if ((keptA zs j r).B ((m + 1 : Nat) : Int)).isSome then 0 else 1 := rfl
    rw [e, ih]
    by_cases h : m + 1 ≤ j
    · rw [if_pos (by show (if 1 ≤ ((m + 1 : Nat) : Int) ∧ ((m + 1 : Nat) : Int) ≤ j then some _ else none).isSome = true; rw [if_pos (by omega)]; rfl)]
      omega
    · rw [if_neg (by show ¬ (if 1 ≤ ((m + 1 : Nat) : Int) ∧ ((m + 1 : Nat) : Int) ≤ j then some _ else none).isSome = true; rw [if_neg (by omega)]; simp)]
      omega
theorem keptA_get {zs : List (List UInt8)} {m j : Nat} {r : Int} {l : List UInt8} (hj : j < m) (hl : zs[j]? = some l) : getA (keptA zs m r) (1 + (j : Int)) = (pad504 l, 0) := by
  unfold getA
  rw [show (keptA zs m r).B (1 + (j : Int)) = some (pad504 l) by
    show (if 1 ≤ 1 + (j : Int) ∧ 1 + (j : Int) ≤ m then some (pad504 (zs.getD (1 + (j : Int) - 1).toNat [])) else none) = _
    rw [if_pos (by omega), show (1 + (j : Int) - 1).toNat = j by omega, List.getD_eq_getElem?_getD, hl]
    rfl]

/-- a disk's blocks are among its pager's -/
theorem PgV.dsk {w : World} {p d : Nat} {F : Nat → Prop} {n : Nat} {s : DS} {S T : AS} {op : Bool} {N : Nat} (h : PgV w p d F n s S T op N) : ∃ fp was, Dsk w d fp n s ∧ (∀ k, fp k → F k) ∧ Home n s was ∧ Abs n was (pgRead s fun _ => none) S := by
  obtain ⟨was, now, ch, h1, h2, h3, h4, h5⟩ := h
  obtain ⟨fp, ok, b, D, hu, hF⟩ := h1.parts
  exact ⟨fp, was, hu.bs.dsk, fun k hk => (hF k).2 (.inl hk), h2, h3⟩
theorem Home.crash {n : Nat} {s : DS} {was : HD} {S : AS} (h : Home n s was) (hS : Abs n was (pgRead s fun _ => none) S) (keep : List Bool) : Home n (dCrash s keep) was ∧ Abs n was (pgRead (dCrash s keep) fun _ => none) S := by
  obtain ⟨h1, h2⟩ := h.rest.crash keep
  exact (h.pgs hS).home h1 h.n0 h.n1
theorem PgW.commit {W w : World} {p d n : Nat} {s : DS} {S T : AS} {N : Nat} (h : PgW W w p d n s S T true N) (hN : N ≤ 399) (ho : s.ops + 3000 ≤ 1000000) (hst : s.stop < 1) :
    Calls Try.prog 24 #[.pointer (some ⟨p, 0, none⟩)] w fun e w' => ∃ s', e = .returned (.int .i64 0) ∧ PgW W w' p d n s' T T false (N + 1) ∧ s'.stop = s.stop ∧ s'.ops ≤ s.ops + 2010 := by
  obtain ⟨F, N', h1, h2, h3, h4⟩ := h
  refine (h1.commit (by omega) ho hst).mono ?_
  rintro e w' ⟨s', rfl, h, h5, h6⟩
  obtain ⟨F9, N9, a, b, c, dd⟩ := PgW.of h3 h4 h
  exact ⟨s', rfl, ⟨F9, N9, a, by omega, c, dd⟩, h5, h6⟩
/-- behind a crash: opened again -/
theorem PgW.reopen {W w w1 : World} {d n : Nat} {fp : Nat → Prop} {s : DS} {was : HD} {S : AS} (hW : Below W.heap.size W w) (hfp : ∀ k, fp k → W.heap.size ≤ k) (hd : Dsk w d fp n s) (hh : Home n s was) (hS : Abs n was (pgRead s fun _ => none) S) (ho : s.ops + 3000 ≤ 1000000) :
    Calls Try.prog 17 #[.pointer (some ⟨d, 0, none⟩)] w fun e w' => ∃ p, e = .returned (.tuple #[.pointer (some ⟨p, 0, none⟩), .int .i64 0]) ∧ PgW W w' p d n s S S false 0 := by
  refine (PgV.open hd hh hS ho).mono ?_
  rintro e w' ⟨p, F, rfl, hv, hc, hp, hF⟩
  exact ⟨p, rfl, F, 0, hv, Nat.le_refl _, hW.trans (hc.below hfp hW.size), fun k hk => (hF k hk).elim (hfp k) (fun h => Nat.le_trans hW.size h)⟩
end Go.Proofs.Ytiphekepglihlaa
