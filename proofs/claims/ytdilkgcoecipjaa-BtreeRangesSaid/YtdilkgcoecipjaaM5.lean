/- package pager: pages as the document has them: plain laws. package pager: a pager, by what it has: all calls but Commit. triadlaw4: within, known. package pager: Commit without a transaction; a pager above a world's memory. -/
import Derived.Test.YtdilkgcoecipjaaM4
import Derived.Test.YtdilkgcoecipjaaM1
import Derived.Test.YtdilkgcoecipjaaM3
import Derived.Test.YtdilkgcoecipjaaM2
import Derived.Defers
namespace Go.Proofs.Ytdilkgcoecipjaa
open Go.RowKit Go.Maps
set_option linter.unusedVariables false

/-- pages: those in use, the free ones that were in use, the last one first; the last one that ever was; the root -/
structure AS where
  B : Int → Option (List UInt8)
  gone : List Int
  ever : Int
  root : Int
def as0 : AS := ⟨fun _ => none, [], 0, 0⟩
def AS.set (A : AS) (k : Int) (o : Option (List UInt8)) : AS := { A with B := fun q => if q = k then o else A.B q }
def newA (n : Nat) (A : AS) : Int × Int × AS :=
  match A.gone with
  | g :: gs => (g, 0, { A with gone := gs }.set g (some (pad504 [])))
  | [] => if A.ever + 1 < (n : Int) - 401 then (A.ever + 1, 0, { A with ever := A.ever + 1 }.set (A.ever + 1) (some (pad504 []))) else (0, 14, A)
def dropA (A : AS) (k : Int) : Int × AS :=
  if (A.B k).isSome then (0, { A with gone := k :: A.gone }.set k none) else (1, A)
def putA (A : AS) (k : Int) (l : List UInt8) : Int × AS :=
  if (A.B k).isSome then (if 504 < l.length then (5, A) else (0, A.set k (some (pad504 l)))) else (1, A)
def rootA (A : AS) (k : Int) : Int × AS := if k < 0 then (1, A) else (0, { A with root := k })

/-- the free pages hang together -/
def Chn (R : Nat → List UInt8) : List Int → Int → Prop
  | [], f => f = 0
  | g :: gs, f => f = g ∧ ∃ f', (R g.toNat).take 8 = le8 f' ∧ 0 ≤ f' ∧ f' < 3000 ∧ Chn R gs f'
theorem Chn.congr {R R' : Nat → List UInt8} : ∀ {gs : List Int} {f : Int}, (∀ g ∈ gs, R g.toNat = R' g.toNat) → Chn R gs f → Chn R' gs f
  | [], _, _, h => h
  | g :: gs, f, hR, ⟨h1, f', h2, h3, h4, h5⟩ => ⟨h1, f', by rw [← hR g (List.mem_cons_self ..)]; exact h2, h3, h4, h5.congr (fun q hq => hR q (List.mem_cons_of_mem _ hq))⟩

/-- a head, and what pages read, are such pages -/
structure Abs (n : Nat) (now : HD) (R : Nat → List UInt8) (A : AS) : Prop where
  used : now.used.length = 375
  root : now.root = A.root
  ever : now.ever = A.ever
  ev0 : 0 ≤ A.ever
  ev1 : A.ever < (n : Int) - 401
  rt0 : 0 ≤ A.root
  rt1 : A.root ≤ 9223372036854775807
  there : ∀ k, thereP n now k = (A.B k).isSome
  page : ∀ k l, A.B k = some l → R k.toNat = l ∧ l.length = 504
  bd : ∀ k l, A.B k = some l → 1 ≤ k ∧ k ≤ A.ever
  chain : Chn R A.gone now.free
  gbd : ∀ g ∈ A.gone, 1 ≤ g ∧ g ≤ A.ever ∧ A.B g = none
  nodup : A.gone.Nodup

theorem bitOf_zero (k : Int) : bitOf (List.replicate 375 0) k = false := by
  by_cases h : 0 < k ∧ k < 3000
  · obtain ⟨j, rfl⟩ : ∃ j : Nat, k = (j : Int) := ⟨k.toNat, by omega⟩
    rw [bitOf_nat h.1 h.2]
    have : (List.replicate 375 (0 : UInt8)).getD (j / 8) 0 = 0 := by
      rw [List.getD_eq_getElem?_getD, List.getElem?_replicate]
      split <;> rfl
    rw [this]
    simp
  · exact bitOf_not h
theorem abs_zero {n : Nat} (hn : 403 ≤ n) (R : Nat → List UInt8) : Abs n hd0 R as0 :=
  ⟨List.length_replicate, rfl, rfl, by simp [as0], by simp only [as0]; omega, by simp [as0], by simp [as0], fun k => (by unfold thereP hd0; rw [bitOf_zero]; rfl), fun _ _ h => (by cases h), fun _ _ h => (by cases h), rfl, fun _ h => (by cases h), List.nodup_nil⟩
theorem Abs.free_bd {n : Nat} {now : HD} {R : Nat → List UInt8} {A : AS} (h : Abs n now R A) (hn3 : n ≤ 3000) : 0 ≤ now.free ∧ now.free < 3000 := by
  have hc := h.chain
  have hg := h.gbd
  have := h.ev1
  rcases hA : A.gone with _ | ⟨g, gs⟩
  · rw [hA] at hc
    have hc : now.free = 0 := hc
    omega
  · rw [hA] at hc hg
    have h1 : now.free = g := hc.1
    have h2 := hg g (List.mem_cons_self ..)
    omega
theorem Abs.congr {n : Nat} {now : HD} {R R' : Nat → List UInt8} {A : AS} (h : Abs n now R A) (hR : ∀ k : Nat, 1 ≤ k → 401 + k < n → R k = R' k) : Abs n now R' A := by
  have h9 := h.ev1
  exact ⟨h.used, h.root, h.ever, h.ev0, h.ev1, h.rt0, h.rt1, h.there, fun k l e => by
    have h1 := h.bd k l e
    rw [← hR k.toNat (by omega) (by omega)]
    exact h.page k l e, h.bd, h.chain.congr (fun g hg => by
    have h1 := h.gbd g hg
    exact hR g.toNat (by omega) (by omega)), h.gbd, h.nodup⟩

set_option maxRecDepth 100000 in
theorem turn_bitF : ∀ (b : Fin 256) (k j : Fin 8), decide (((UInt8.ofNat b.val) &&& ~~~ ((1 : UInt8) <<< (UInt8.ofNat k.val))).toNat / 2 ^ j.val % 2 = 1) = (if j = k then false else decide (b.val / 2 ^ j.val % 2 = 1)) ∧
    decide ((((UInt8.ofNat b.val) &&& ~~~ ((1 : UInt8) <<< (UInt8.ofNat k.val))) ||| ((1 : UInt8) <<< (UInt8.ofNat k.val))).toNat / 2 ^ j.val % 2 = 1) = (if j = k then true else decide (b.val / 2 ^ j.val % 2 = 1)) := by decide +kernel
theorem turn_bit (b : UInt8) (k j : Nat) (is : Bool) : decide ((turnB b k is).toNat / 2 ^ (j % 8) % 2 = 1) = (if j % 8 = k % 8 then is else decide (b.toNat / 2 ^ (j % 8) % 2 = 1)) := by
  have h := turn_bitF ⟨b.toNat, b.toNat_lt⟩ ⟨k % 8, Nat.mod_lt _ (by omega)⟩ ⟨j % 8, Nat.mod_lt _ (by omega)⟩
  simp only [Fin.mk.injEq, UInt8.ofNat_toNat] at h
  unfold turnB
  cases is
  · rw [if_neg (by decide)]; exact h.1
  · rw [if_pos rfl]; exact h.2
theorem bitOf_turn {h : HD} (hu : h.used.length = 375) {k : Nat} (hk0 : 0 < k) (hk : k < 3000) (is : Bool) (q : Int) : bitOf (turnH h k is).used q = if q = (k : Int) then is else bitOf h.used q := by
  by_cases hq : 0 < q ∧ q < 3000
  · obtain ⟨j, rfl⟩ : ∃ j : Nat, q = (j : Int) := ⟨q.toNat, by omega⟩
    rw [bitOf_nat hq.1 hq.2, bitOf_nat hq.1 hq.2]
    show decide (((h.used.set (k / 8) (turnB (h.used.getD (k / 8) 0) k is)).getD (j / 8) 0).toNat / 2 ^ (j % 8) % 2 = 1) = _
    rw [List.getD_eq_getElem?_getD, List.getElem?_set]
    by_cases e : k / 8 = j / 8
    · rw [if_pos e, if_pos (by omega), Option.getD_some, turn_bit]
      by_cases e2 : j % 8 = k % 8
      · rw [if_pos e2, if_pos (by omega)]
      · rw [if_neg e2, if_neg (by omega), e]
    · rw [if_neg e, if_neg (by omega), List.getD_eq_getElem?_getD]
  · rw [bitOf_not hq, bitOf_not hq, if_neg (by omega)]
theorem there_turn {n : Nat} {h : HD} (hu : h.used.length = 375) {k : Nat} (hk0 : 0 < k) (hk : k < 3000) (hkn : (k : Int) < (n : Int) - 401) (is : Bool) (q : Int) : thereP n (turnH h k is) q = if q = (k : Int) then is else thereP n h q := by
  unfold thereP
  rw [bitOf_turn hu hk0 hk]
  by_cases e : q = (k : Int)
  · rw [if_pos e, if_pos e, decide_eq_true (by omega), Bool.and_true]
  · rw [if_neg e, if_neg e]
theorem there_ext {n : Nat} {h h' : HD} (e : h.used = h'.used) (k : Int) : thereP n h k = thereP n h' k := by unfold thereP; rw [e]
theorem turn_length (h : HD) (k : Nat) (is : Bool) : (turnH h k is).used.length = h.used.length := by simp [turnH]
theorem pgRead_chP (s : DS) (ch : Int → Option (List UInt8)) (at_ : Int) (l : List UInt8) (k : Nat) : pgRead s (chP ch at_ l) k = if (k : Int) = at_ then pad504 l else pgRead s ch k := by
  unfold pgRead chP
  split <;> rfl
theorem pad504_length {l : List UInt8} (h : l.length ≤ 504) : (pad504 l).length = 504 := by simp [pad504]; omega
theorem AS.set_B (A : AS) (k : Int) (o : Option (List UInt8)) (q : Int) : (A.set k o).B q = if q = k then o else A.B q := rfl
theorem le8_back {f : Int} (h0 : 0 ≤ f) (h1 : f < 3000) : wrap64 (num (le8 f) : Nat) = f := num_le8s (by omega) (by omega)

theorem Abs.new {n : Nat} {s : DS} {now : HD} {ch : Int → Option (List UInt8)} {A : AS} (h : Abs n now (pgRead s ch) A) (hn3 : n ≤ 3000) :
    (newP n s true now ch).1 = (newA n A).1 ∧ (newP n s true now ch).2.1 = (newA n A).2.1 ∧ Abs n (newP n s true now ch).2.2.1 (pgRead s (newP n s true now ch).2.2.2) (newA n A).2.2 := by
  have hev0 := h.ev0
  have hev1 := h.ev1
  have hnew : newP n s true now ch = if (freshP n s now ch).2.1 = 0 then ((freshP n s now ch).1, 0, turnH (freshP n s now ch).2.2 (freshP n s now ch).1.toNat true, chP ch (freshP n s now ch).1 []) else (0, (freshP n s now ch).2.1, (freshP n s now ch).2.2, ch) := if_neg (by simp)
  rcases hA : A.gone with _ | ⟨g, gs⟩
  · have hfree : now.free = 0 := by have := h.chain; rw [hA] at this; exact this
    have hnA : newA n A = if A.ever + 1 < (n : Int) - 401 then (A.ever + 1, 0, { A with ever := A.ever + 1 }.set (A.ever + 1) (some (pad504 []))) else (0, 14, A) := by unfold newA; rw [hA]
    have hw : wrap64 (now.ever + 1) = A.ever + 1 := by
      rw [h.ever]; unfold wrap64; omega
    have hB : A.B (A.ever + 1) = none := by
      rcases e : A.B (A.ever + 1) with _ | l
      · rfl
      · have := h.bd _ _ e; omega
    have hth : thereP n now (A.ever + 1) = false := by rw [h.there, hB]; rfl
    have hfr : freshP n s now ch = if (n : Int) - 401 ≤ A.ever + 1 then (0, 14, now) else (A.ever + 1, 0, { now with ever := A.ever + 1 }) := by
      unfold freshP
      rw [if_neg (by omega), hw, hth]
      by_cases e : (n : Int) - 401 ≤ A.ever + 1
      · rw [if_pos e, if_pos (.inr (.inl e))]
      · rw [if_neg e, if_neg (by rintro (h1 | h1 | h1) <;> first | omega | cases h1)]
    by_cases e : A.ever + 1 < (n : Int) - 401
    · rw [if_neg (by omega)] at hfr
      rw [hnew, hnA, if_pos e, hfr, if_pos rfl]
      refine ⟨rfl, rfl, ?_⟩
      obtain ⟨k, hk⟩ : ∃ k : Nat, A.ever + 1 = (k : Int) := ⟨(A.ever + 1).toNat, by omega⟩
      simp only [hk, Int.toNat_natCast]
      refine ⟨(turn_length _ _ _).trans h.used, h.root, rfl, by show (0 : Int) ≤ (k : Int); omega, by show (k : Int) < _; omega, h.rt0, h.rt1, fun q => ?_, fun q l hq => ?_, fun q l hq => ?_, ?_, ?_, ?_⟩
      · rw [there_turn (h := { now with ever := (k : Int) }) h.used (by omega) (by omega) (by omega), AS.set_B]
        by_cases e2 : q = (k : Int)
        · rw [if_pos e2, if_pos e2]; rfl
        · rw [if_neg e2, if_neg e2]; exact (there_ext rfl q).trans (h.there q)
      · rw [AS.set_B] at hq
        rw [pgRead_chP]
        by_cases e2 : q = (k : Int)
        · rw [if_pos e2] at hq
          injection hq with hq
          rw [if_pos (by omega), hq]
          exact ⟨rfl, by rw [← hq]; exact pad504_length (by simp)⟩
        · rw [if_neg e2] at hq
          have h1 := h.bd q l hq
          rw [if_neg (by omega)]
          exact h.page q l hq
      · rw [AS.set_B] at hq
        show 1 ≤ q ∧ q ≤ (k : Int)
        by_cases e2 : q = (k : Int)
        · omega
        · rw [if_neg e2] at hq
          have h1 := h.bd q l hq
          omega
      · show Chn _ A.gone now.free
        rw [hA]
        exact hfree
      · show ∀ q ∈ A.gone, _
        rw [hA]
        intro q hq
        cases hq
      · exact h.nodup
    · rw [if_pos (by omega)] at hfr
      rw [hnew, hnA, if_neg e, hfr, if_neg (by simp)]
      exact ⟨rfl, rfl, h⟩
  · have hc := h.chain
    rw [hA] at hc
    obtain ⟨hfree, f', hf1, hf2, hf3, hf4⟩ := hc
    have hgb := h.gbd
    have hnd := h.nodup
    rw [hA] at hgb hnd
    have hg := hgb g (List.mem_cons_self ..)
    have hgn : ∀ q ∈ gs, q ≠ g := fun q hq e => (List.nodup_cons.1 hnd).1 (e ▸ hq)
    have hth : thereP n now g = false := by rw [h.there, hg.2.2]; rfl
    have hfr : freshP n s now ch = (g, 0, { now with free := f' }) := by
      unfold freshP
      rw [if_pos ⟨by omega, by omega, by rw [hfree]; exact hth⟩, hfree, hf1, le8_back hf2 hf3]
    have hnA : newA n A = (g, 0, { A with gone := gs }.set g (some (pad504 []))) := by unfold newA; rw [hA]
    rw [hnew, hnA, hfr, if_pos rfl]
    refine ⟨rfl, rfl, ?_⟩
    obtain ⟨k, hk⟩ : ∃ k : Nat, g = (k : Int) := ⟨g.toNat, by omega⟩
    subst hk
    simp only [Int.toNat_natCast]
    refine ⟨(turn_length _ _ _).trans h.used, h.root, h.ever, h.ev0, h.ev1, h.rt0, h.rt1, fun q => ?_, fun q l hq => ?_, fun q l hq => ?_, ?_, ?_, ?_⟩
    · rw [there_turn (h := { now with free := f' }) h.used (by omega) (by omega) (by omega), AS.set_B]
      by_cases e2 : q = (k : Int)
      · rw [if_pos e2, if_pos e2]; rfl
      · rw [if_neg e2, if_neg e2]; exact (there_ext rfl q).trans (h.there q)
    · rw [AS.set_B] at hq
      rw [pgRead_chP]
      by_cases e2 : q = (k : Int)
      · rw [if_pos e2] at hq
        injection hq with hq
        rw [if_pos (by omega), hq]
        exact ⟨rfl, by rw [← hq]; exact pad504_length (by simp)⟩
      · rw [if_neg e2] at hq
        have h1 := h.bd q l hq
        rw [if_neg (by omega)]
        exact h.page q l hq
    · rw [AS.set_B] at hq
      show 1 ≤ q ∧ q ≤ A.ever
      by_cases e2 : q = (k : Int)
      · omega
      · rw [if_neg e2] at hq
        exact h.bd q l hq
    · exact hf4.congr (fun q hq => by
        have h1 := hgb q (List.mem_cons_of_mem _ hq)
        have h2 := hgn q hq
        rw [pgRead_chP, if_neg (by omega)])
    · intro q hq
      have h1 := hgb q (List.mem_cons_of_mem _ hq)
      exact ⟨h1.1, h1.2.1, by rw [AS.set_B, if_neg (hgn q hq)]; exact h1.2.2⟩
    · exact (List.nodup_cons.1 hnd).2

theorem Abs.drop {n : Nat} {s : DS} {now : HD} {ch : Int → Option (List UInt8)} {A : AS} (h : Abs n now (pgRead s ch) A) (hn3 : n ≤ 3000) (at_ : Int) :
    (dropP n true now ch at_).1 = (dropA A at_).1 ∧ Abs n (dropP n true now ch at_).2.1 (pgRead s (dropP n true now ch at_).2.2) (dropA A at_).2 := by
  have hd : dropP n true now ch at_ = if thereP n now at_ = false then (1, now, ch) else (0, { turnH now at_.toNat false with free := at_ }, chP ch at_ (le8 now.free)) := if_neg (by simp)
  have hev1 := h.ev1
  have hfb := h.free_bd hn3
  unfold dropA
  rw [hd, h.there]
  rcases e : A.B at_ with _ | l0
  · rw [if_pos (show (none : Option (List UInt8)).isSome = false from rfl), if_neg (by simp : ¬ (none : Option (List UInt8)).isSome = true)]
    exact ⟨rfl, h⟩
  · rw [if_neg (by simp : ¬ (some l0).isSome = false), if_pos (show (some l0).isSome = true from rfl)]
    refine ⟨rfl, ?_⟩
    have hb := h.bd _ _ e
    have hpg := h.page _ _ e
    obtain ⟨k, rfl⟩ : ∃ k : Nat, at_ = (k : Int) := ⟨at_.toNat, by omega⟩
    simp only [Int.toNat_natCast] at *
    have hkg : ∀ q ∈ A.gone, q ≠ (k : Int) := fun q hq e2 => by
      have h1 := h.gbd q hq
      rw [e2, e] at h1
      exact absurd h1.2.2 (by simp)
    refine ⟨(turn_length _ _ _).trans h.used, h.root, h.ever, h.ev0, h.ev1, h.rt0, h.rt1, fun q => ?_, fun q l hq => ?_, fun q l hq => ?_, ?_, ?_, ?_⟩
    · refine (there_ext (h' := turnH now k false) rfl q).trans ?_
      rw [there_turn h.used (by omega) (by omega) (by omega), AS.set_B]
      by_cases e2 : q = (k : Int)
      · rw [if_pos e2, if_pos e2]; rfl
      · rw [if_neg e2, if_neg e2, h.there]
    · rw [AS.set_B] at hq
      rw [pgRead_chP]
      by_cases e2 : q = (k : Int)
      · rw [if_pos e2] at hq
        cases hq
      · rw [if_neg e2] at hq
        have h1 := h.bd q l hq
        rw [if_neg (by omega)]
        exact h.page q l hq
    · rw [AS.set_B] at hq
      by_cases e2 : q = (k : Int)
      · rw [if_pos e2] at hq
        cases hq
      · rw [if_neg e2] at hq
        exact h.bd q l hq
    · refine ⟨rfl, now.free, ?_, hfb.1, hfb.2, h.chain.congr (fun q hq => ?_)⟩
      · rw [pgRead_chP, if_pos (by simp)]
        unfold pad504
        rw [List.take_left' (le8_length _)]
      · have h1 := h.gbd q hq
        have h2 := hkg q hq
        rw [pgRead_chP, if_neg (by omega)]
    · intro q hq
      rw [AS.set_B]
      rcases List.mem_cons.1 hq with rfl | hq
      · exact ⟨by omega, by show (k : Int) ≤ A.ever; omega, if_pos rfl⟩
      · have h1 := h.gbd q hq
        exact ⟨h1.1, h1.2.1, by rw [if_neg (hkg q hq)]; exact h1.2.2⟩
    · exact List.nodup_cons.2 ⟨fun hq => hkg _ hq rfl, h.nodup⟩

theorem Abs.put {n : Nat} {s : DS} {now : HD} {ch : Int → Option (List UInt8)} {A : AS} (h : Abs n now (pgRead s ch) A) (at_ : Int) (l : List UInt8) :
    (putP n true now ch at_ l).1 = (putA A at_ l).1 ∧ Abs n now (pgRead s (putP n true now ch at_ l).2) (putA A at_ l).2 := by
  have hd : putP n true now ch at_ l = if thereP n now at_ = false then (1, ch) else if 504 < l.length then (5, ch) else (0, chP ch at_ l) := if_neg (by simp)
  unfold putA
  rw [hd, h.there]
  rcases e : A.B at_ with _ | l0
  · rw [if_pos (show (none : Option (List UInt8)).isSome = false from rfl), if_neg (by simp : ¬ (none : Option (List UInt8)).isSome = true)]
    exact ⟨rfl, h⟩
  · rw [if_neg (by simp : ¬ (some l0).isSome = false), if_pos (show (some l0).isSome = true from rfl)]
    by_cases h5 : 504 < l.length
    · rw [if_pos h5, if_pos h5]
      exact ⟨rfl, h⟩
    · rw [if_neg h5, if_neg h5]
      refine ⟨rfl, ?_⟩
      have hb := h.bd _ _ e
      obtain ⟨k, rfl⟩ : ∃ k : Nat, at_ = (k : Int) := ⟨at_.toNat, by omega⟩
      have hkg : ∀ q ∈ A.gone, q ≠ (k : Int) := fun q hq e2 => by
        have h1 := h.gbd q hq
        rw [e2, e] at h1
        exact absurd h1.2.2 (by simp)
      refine ⟨h.used, h.root, h.ever, h.ev0, h.ev1, h.rt0, h.rt1, fun q => ?_, fun q l' hq => ?_, fun q l' hq => ?_, ?_, ?_, h.nodup⟩
      · rw [h.there, AS.set_B]
        by_cases e2 : q = (k : Int)
        · rw [if_pos e2, e2, e]; rfl
        · rw [if_neg e2]
      · rw [AS.set_B] at hq
        rw [pgRead_chP]
        by_cases e2 : q = (k : Int)
        · rw [if_pos e2] at hq
          injection hq with hq
          rw [if_pos (by omega), hq]
          exact ⟨rfl, by rw [← hq]; exact pad504_length (by omega)⟩
        · rw [if_neg e2] at hq
          have h1 := h.bd q l' hq
          rw [if_neg (by omega)]
          exact h.page q l' hq
      · rw [AS.set_B] at hq
        by_cases e2 : q = (k : Int)
        · subst e2; exact hb
        · rw [if_neg e2] at hq
          exact h.bd q l' hq
      · exact h.chain.congr (fun q hq => by
          have h1 := h.gbd q hq
          have h2 := hkg q hq
          rw [pgRead_chP, if_neg (by omega)])
      · intro q hq
        have h1 := h.gbd q hq
        exact ⟨h1.1, h1.2.1, by rw [AS.set_B, if_neg (hkg q hq)]; exact h1.2.2⟩

theorem Abs.setRoot {n : Nat} {now : HD} {R : Nat → List UInt8} {A : AS} (h : Abs n now R A) (at_ : Int) (hat : at_ ≤ 9223372036854775807) :
    (if at_ < 0 then (1 : Int) else 0) = (rootA A at_).1 ∧ Abs n (if at_ < 0 then now else { now with root := at_ }) R (rootA A at_).2 := by
  unfold rootA
  by_cases e : at_ < 0
  · rw [if_pos e, if_pos e, if_pos e]; exact ⟨rfl, h⟩
  · rw [if_neg e, if_neg e, if_neg e]
    exact ⟨rfl, h.used, rfl, h.ever, h.ev0, h.ev1, by show 0 ≤ at_; omega, hat, h.there, h.page, h.bd, h.chain, h.gbd, h.nodup⟩
end Go.Proofs.Ytdilkgcoecipjaa

namespace Go.Proofs.Ytdilkgcoecipjaa
open Go.RowKit Go.Maps
set_option linter.unusedVariables false

/-- a disk at rest without a log, and what its page 0 says -/
structure Home (n : Nat) (s : DS) (was : HD) : Prop where
  n0 : 403 ≤ n
  n1 : n ≤ 3000
  rest : Rest n s s.now
  log : row s.now 0 = z512
  head : hdP (row s.now 401) = was
/-- a pager, over the blocks F: what was committed, and what is seen -/
def PgV (w : World) (p d : Nat) (F : Nat → Prop) (n : Nat) (s : DS) (S T : AS) (op : Bool) (N : Nat) : Prop :=
  ∃ was now ch, PgA w p d F n s was now op ch N ∧ Home n s was ∧ Abs n was (pgRead s fun _ => none) S ∧ Abs n now (pgRead s ch) T ∧ ∀ k l, ch k = some l → 1 ≤ k ∧ k ≤ T.ever
def PgTo (w : World) (p d : Nat) (F : Nat → Prop) (n : Nat) (s : DS) (S T : AS) (op : Bool) (N : Nat) (w' : World) : Prop :=
  ∃ F' N', PgV w' p d F' n s S T op N' ∧ N' ≤ N + 1 ∧ Chg F w w' ∧ ∀ k, F' k → F k ∨ w.heap.size ≤ k

def newO (n : Nat) (op : Bool) (A : AS) : Int × Int × AS := if op = false then (0, 12, A) else newA n A
def dropO (op : Bool) (A : AS) (k : Int) : Int × AS := if op = false then (12, A) else dropA A k
def putO (op : Bool) (A : AS) (k : Int) (l : List UInt8) : Int × AS := if op = false then (12, A) else putA A k l
def rootO (op : Bool) (A : AS) (k : Int) : Int × AS := if op = false then (12, A) else rootA A k
def getA (A : AS) (k : Int) : List UInt8 × Int := match A.B k with
  | some l => (l, 0)
  | none => ([], 1)

theorem PgA.len {w : World} {p d : Nat} {F : Nat → Prop} {n : Nat} {s : DS} {was now : HD} {op : Bool} {ch : Int → Option (List UInt8)} {N : Nat} (h : PgA w p d F n s was now op ch N) : (∀ k l, ch k = some l → l.length = 504) ∧ ∀ k : Nat, 401 + k < n → (pgRead s ch k).length = 504 := by
  obtain ⟨fp, ok, b, D, h1, h2, h3, h4, h5, h6, h7⟩ := h
  have hch : ∀ k l, ch k = some l → l.length = 504 := fun k l e => by
    have h := h3 k
    rw [e] at h
    obtain ⟨_, g, _, _, h, _⟩ := h
    exact h
  refine ⟨hch, fun k hk => ?_⟩
  unfold pgRead
  rcases e : ch k with _ | l
  · rw [Option.getD_none, List.length_take, row_length h1.dsk.ok.now hk]; rfl
  · rw [Option.getD_some]; exact hch _ _ e
theorem PgV.lt {w : World} {p d : Nat} {F : Nat → Prop} {n : Nat} {s : DS} {S T : AS} {op : Bool} {N : Nat} (h : PgV w p d F n s S T op N) : ∀ k, F k → k < w.heap.size := by
  obtain ⟨was, now, ch, h1, _⟩ := h
  exact h1.lt
theorem PgV.chg {w w' : World} {p d : Nat} {F fq : Nat → Prop} {n : Nat} {s : DS} {S T : AS} {op : Bool} {N : Nat} (h : PgV w p d F n s S T op N) (hc : Chg fq w w') (hn : ∀ k, F k → ¬ fq k) : PgV w' p d F n s S T op N := by
  obtain ⟨was, now, ch, h1, h2⟩ := h
  exact ⟨was, now, ch, h1.chg hc hn, h2⟩
theorem PgV.new' {w w' : World} {p d : Nat} {F : Nat → Prop} {n : Nat} {s : DS} {S T : AS} {op : Bool} {N : Nat} (h : PgV w p d F n s S T op N) (hb : Below w.heap.size w w') : PgV w' p d F n s S T op N :=
  h.chg (Chg.new hb (fun _ => False)) (fun _ _ h => h)

theorem PgV.begin {w : World} {p d : Nat} {F : Nat → Prop} {n : Nat} {s : DS} {S T : AS} {op : Bool} {N : Nat} (h : PgV w p d F n s S T op N) :
    Calls Try.prog 23 #[.pointer (some ⟨p, 0, none⟩)] w fun e w' => e = .returned (.int .i64 (if op then 12 else 0)) ∧ PgTo w p d F n s S T true N w' := by
  obtain ⟨was, now, ch, h1, h2⟩ := h
  refine (beginA h1).mono ?_
  rintro e w' ⟨rfl, hc, h3⟩
  exact ⟨rfl, F, N, ⟨was, now, ch, h3, h2⟩, Nat.le_succ _, hc, fun k h => .inl h⟩

theorem newA_ever {n : Nat} {A : AS} (hg : ∀ g ∈ A.gone, 1 ≤ g ∧ g ≤ A.ever) (h0 : 0 ≤ A.ever) : A.ever ≤ (newA n A).2.2.ever ∧ ((newA n A).2.1 = 0 → 1 ≤ (newA n A).1 ∧ (newA n A).1 ≤ (newA n A).2.2.ever) := by
  unfold newA
  rcases e : A.gone with _ | ⟨g, gs⟩
  · simp only
    split
    · refine ⟨?_, fun _ => ⟨?_, ?_⟩⟩ <;> simp only [AS.set] <;> omega
    · exact ⟨Int.le_refl _, fun h => by simp at h⟩
  · have := hg g (by rw [e]; exact List.mem_cons_self ..)
    exact ⟨Int.le_refl _, fun _ => this⟩

theorem PgV.new {w : World} {p d : Nat} {F : Nat → Prop} {n : Nat} {s : DS} {S T : AS} {op : Bool} {N : Nat} (h : PgV w p d F n s S T op N) (hN : N ≤ 1000000) :
    Calls Try.prog 24 #[.pointer (some ⟨p, 0, none⟩)] w fun e w' => e = .returned (.tuple #[.int .i64 (newO n op T).1, .int .i64 (newO n op T).2.1]) ∧ PgTo w p d F n s S (newO n op T).2.2 op N w' := by
  obtain ⟨was, now, ch, h1, h2, h3, h4, h5⟩ := h
  refine (h1.new h2.n0 h2.n1 h2.rest.alive h1.len.2 hN).mono ?_
  rintro e w' ⟨rfl, hc, F', N', h6, hN', hF'⟩
  cases op with
  | false =>
    rw [show newO n false T = (0, 12, T) from if_pos rfl]
    rw [show newP n s false now ch = (0, 12, now, ch) from if_pos rfl] at h6 ⊢
    exact ⟨rfl, F', N', ⟨was, now, ch, h6, h2, h3, h4, h5⟩, hN', hc, hF'⟩
  | true =>
    rw [show newO n true T = newA n T from if_neg (by simp)]
    obtain ⟨e1, e2, h7⟩ := h4.new h2.n1
    have hev := newA_ever (n := n) (fun g hg => ⟨(h4.gbd g hg).1, (h4.gbd g hg).2.1⟩) h4.ev0
    refine ⟨by rw [e1, e2], F', N', ⟨was, _, _, h6, h2, h3, h7, fun k l hk => ?_⟩, hN', hc, hF'⟩
    have hnew : newP n s true now ch = if (freshP n s now ch).2.1 = 0 then ((freshP n s now ch).1, 0, turnH (freshP n s now ch).2.2 (freshP n s now ch).1.toNat true, chP ch (freshP n s now ch).1 []) else (0, (freshP n s now ch).2.1, (freshP n s now ch).2.2, ch) := if_neg (by simp)
    by_cases h0 : (freshP n s now ch).2.1 = 0
    · rw [if_pos h0] at hnew
      rw [hnew] at hk e1 e2
      simp only [chP] at hk e1 e2
      by_cases e : k = (freshP n s now ch).1
      · rw [e, e1]
        exact hev.2 e2.symm
      · rw [if_neg e] at hk
        have := h5 k l hk
        omega
    · rw [if_neg h0] at hnew
      rw [hnew] at hk
      have := h5 k l hk
      omega

theorem PgV.drop {w : World} {p d : Nat} {F : Nat → Prop} {n : Nat} {s : DS} {S T : AS} {op : Bool} {N : Nat} (h : PgV w p d F n s S T op N) (at_ : Int) (hN : N ≤ 1000000) :
    Calls Try.prog 49 #[.pointer (some ⟨p, 0, none⟩), .int .i64 at_] w fun e w' => e = .returned (.int .i64 (dropO op T at_).1) ∧ PgTo w p d F n s S (dropO op T at_).2 op N w' := by
  obtain ⟨was, now, ch, h1, h2, h3, h4, h5⟩ := h
  refine (h1.drop at_ hN).mono ?_
  rintro e w' ⟨rfl, hc, F', N', h6, hN', hF'⟩
  cases op with
  | false =>
    rw [show dropO false T at_ = (12, T) from if_pos rfl]
    rw [show dropP n false now ch at_ = (12, now, ch) from if_pos rfl] at h6 ⊢
    exact ⟨rfl, F', N', ⟨was, now, ch, h6, h2, h3, h4, h5⟩, hN', hc, hF'⟩
  | true =>
    rw [show dropO true T at_ = dropA T at_ from if_neg (by simp)]
    obtain ⟨e1, h7⟩ := h4.drop h2.n1 at_
    refine ⟨by rw [e1], F', N', ⟨was, _, _, h6, h2, h3, h7, fun k l hk => ?_⟩, hN', hc, hF'⟩
    have hev : (dropA T at_).2.ever = T.ever := by unfold dropA; split <;> rfl
    rw [hev]
    have hd : dropP n true now ch at_ = if thereP n now at_ = false then (1, now, ch) else (0, { turnH now at_.toNat false with free := at_ }, chP ch at_ (le8 now.free)) := if_neg (by simp)
    by_cases h0 : thereP n now at_ = false
    · rw [hd, if_pos h0] at hk
      exact h5 k l hk
    · rw [hd, if_neg h0] at hk
      simp only [chP] at hk
      by_cases e : k = at_
      · rw [h4.there] at h0
        obtain ⟨l0, hl0⟩ := Option.isSome_iff_exists.1 (Bool.not_eq_false _ ▸ h0 : (T.B at_).isSome = true)
        rw [e]
        exact h4.bd _ _ hl0
      · rw [if_neg e] at hk
        exact h5 k l hk

theorem PgV.put {w : World} {p d : Nat} {F : Nat → Prop} {n : Nat} {s : DS} {S T : AS} {op : Bool} {N : Nat} (h : PgV w p d F n s S T op N) (at_ : Int) (v : Value) (l : List UInt8) (hv : Bs w v l) (hl : l.length ≤ 1000000) (hN : N ≤ 1000000) :
    Calls Try.prog 25 #[.pointer (some ⟨p, 0, none⟩), .int .i64 at_, v] w fun e w' => e = .returned (.int .i64 (putO op T at_ l).1) ∧ PgTo w p d F n s S (putO op T at_ l).2 op N w' := by
  obtain ⟨was, now, ch, h1, h2, h3, h4, h5⟩ := h
  refine (h1.put at_ v l hv hl hN).mono ?_
  rintro e w' ⟨rfl, hc, F', N', h6, hN', hF'⟩
  cases op with
  | false =>
    rw [show putO false T at_ l = (12, T) from if_pos rfl]
    rw [show putP n false now ch at_ l = (12, ch) from if_pos rfl] at h6 ⊢
    exact ⟨rfl, F', N', ⟨was, now, ch, h6, h2, h3, h4, h5⟩, hN', hc, hF'⟩
  | true =>
    rw [show putO true T at_ l = putA T at_ l from if_neg (by simp)]
    obtain ⟨e1, h7⟩ := h4.put at_ l
    refine ⟨by rw [e1], F', N', ⟨was, _, _, h6, h2, h3, h7, fun k l' hk => ?_⟩, hN', hc, hF'⟩
    have hev : (putA T at_ l).2.ever = T.ever := by unfold putA; split <;> (try split) <;> rfl
    rw [hev]
    have hd : putP n true now ch at_ l = if thereP n now at_ = false then (1, ch) else if 504 < l.length then (5, ch) else (0, chP ch at_ l) := if_neg (by simp)
    by_cases h0 : thereP n now at_ = false
    · rw [hd, if_pos h0] at hk
      exact h5 k l' hk
    · rw [hd, if_neg h0] at hk
      by_cases h8 : 504 < l.length
      · rw [if_pos h8] at hk
        exact h5 k l' hk
      · rw [if_neg h8] at hk
        simp only [chP] at hk
        by_cases e : k = at_
        · rw [h4.there] at h0
          obtain ⟨l0, hl0⟩ := Option.isSome_iff_exists.1 (Bool.not_eq_false _ ▸ h0 : (T.B at_).isSome = true)
          rw [e]
          exact h4.bd _ _ hl0
        · rw [if_neg e] at hk
          exact h5 k l' hk

theorem PgV.setRoot {w : World} {p d : Nat} {F : Nat → Prop} {n : Nat} {s : DS} {S T : AS} {op : Bool} {N : Nat} (h : PgV w p d F n s S T op N) (at_ : Int) (hat : at_ ≤ 9223372036854775807) :
    Calls Try.prog 44 #[.pointer (some ⟨p, 0, none⟩), .int .i64 at_] w fun e w' => e = .returned (.int .i64 (rootO op T at_).1) ∧ PgTo w p d F n s S (rootO op T at_).2 op N w' := by
  obtain ⟨was, now, ch, h1, h2, h3, h4, h5⟩ := h
  refine (h1.setRoot at_).mono ?_
  rintro e w' ⟨rfl, hc, h6⟩
  cases op with
  | false =>
    rw [show rootO false T at_ = (12, T) from if_pos rfl]
    rw [if_pos rfl] at h6 ⊢
    exact ⟨rfl, F, N, ⟨was, now, ch, h6, h2, h3, h4, h5⟩, Nat.le_succ _, hc, fun k h => .inl h⟩
  | true =>
    rw [show rootO true T at_ = rootA T at_ from if_neg (by simp)]
    rw [if_neg (by simp)] at h6 ⊢
    obtain ⟨e1, h7⟩ := h4.setRoot at_ hat
    refine ⟨by rw [e1], F, N, ⟨was, _, _, h6, h2, h3, h7, fun k l hk => ?_⟩, Nat.le_succ _, hc, fun k h => .inl h⟩
    have hev : (rootA T at_).2.ever = T.ever := by unfold rootA; split <;> rfl
    rw [hev]
    exact h5 k l hk

theorem PgV.get {w : World} {p d : Nat} {F : Nat → Prop} {n : Nat} {s : DS} {S T : AS} {op : Bool} {N : Nat} (h : PgV w p d F n s S T op N) (at_ : Int) :
    Calls Try.prog 62 #[.pointer (some ⟨p, 0, none⟩), .int .i64 at_] w fun e w' => ∃ q m c, e = .returned (.tuple #[.slice q m c, .int .i64 (getA T at_).2]) ∧ m = (getA T at_).1.length ∧
      Bs w' (.slice q m c) (getA T at_).1 ∧ Below w.heap.size w w' ∧ ∀ g, Value.ownBlock (.slice q m c) = some g → w.heap.size ≤ g := by
  obtain ⟨was, now, ch, h1, h2, h3, h4, h5⟩ := h
  refine (h1.get h2.rest.alive at_).mono ?_
  rintro e w' ⟨q, m, c, rfl, hm, hb, hbe, hgg⟩
  unfold getA
  have ht := h4.there at_
  rcases e : T.B at_ with _ | l
  · rw [e] at ht
    have ht' : thereP n now at_ = false := ht
    rw [ht'] at hm hb ⊢
    exact ⟨q, m, c, rfl, hm, hb, hbe, hgg⟩
  · rw [e] at ht
    have ht' : thereP n now at_ = true := ht
    rw [ht'] at hm hb ⊢
    rw [if_pos rfl, (h4.page _ _ e).1] at hm hb
    exact ⟨q, m, c, rfl, hm, hb, hbe, hgg⟩

theorem PgV.root {w : World} {p d : Nat} {F : Nat → Prop} {n : Nat} {s : DS} {S T : AS} {op : Bool} {N : Nat} (h : PgV w p d F n s S T op N) :
    Calls Try.prog 45 #[.pointer (some ⟨p, 0, none⟩)] w fun e w' => e = .returned (.int .i64 T.root) ∧ w' = w := by
  obtain ⟨was, now, ch, h1, h2, h3, h4, h5⟩ := h
  rw [← h4.root]
  exact h1.root

theorem PgV.open {w : World} {d : Nat} {fp : Nat → Prop} {n : Nat} {s : DS} {was : HD} {S : AS} (h : Dsk w d fp n s) (hh : Home n s was) (hS : Abs n was (pgRead s fun _ => none) S) (ho : s.ops + 3000 ≤ 1000000) :
    Calls Try.prog 21 #[.pointer (some ⟨d, 0, none⟩)] w fun e w' => ∃ p F, e = .returned (.tuple #[.pointer (some ⟨p, 0, none⟩), .int .i64 0]) ∧ PgV w' p d F n s S S false 0 ∧ Chg fp w w' ∧ w.heap.size ≤ p ∧ ∀ k, F k → fp k ∨ w.heap.size ≤ k := by
  have hr := recov_rest hh.rest hh.log
  refine (openA w d fp n s h hh.n0 ho (by rw [hr]) (by rw [hr]; exact hh.rest.alive)).mono ?_
  rw [hr]
  rintro e w' ⟨p, F, rfl, h1, hc, hp, hF⟩
  rw [show hdP (row (s, (0 : Int), (0 : Int)).1.now 401) = was from hh.head] at h1
  exact ⟨p, F, rfl, ⟨was, was, _, h1, hh, hS, hS, fun k l h => by cases h⟩, hc, hp, hF⟩

theorem hdP_zero : hdP z512 = hd0 := by kernel_rfl
theorem home_new {n : Nat} (h0 : 403 ≤ n) (h1 : n ≤ 3000) : Home n (dNew n) hd0 :=
  ⟨h0, h1, rest_new n, row_zero (by omega), by rw [show row (dNew n).now 401 = z512 from row_zero (by omega)]; exact hdP_zero⟩

/-- of the first j pages, how many are free -/
def frees (A : AS) : Nat → Nat
  | 0 => 0
  | j + 1 => frees A j + if (A.B ((j + 1 : Nat) : Int)).isSome then 0 else 1
theorem frees_le (A : AS) : ∀ j, frees A j ≤ j
  | 0 => Nat.le_refl _
  | j + 1 => by
    have := frees_le A j
    unfold frees
    split <;> omega

set_option maxRecDepth 100000 in
theorem PgV.free {w : World} {p d : Nat} {F : Nat → Prop} {n : Nat} {s : DS} {S T : AS} {op : Bool} {N : Nat} (h : PgV w p d F n s S T op N) :
    Calls Try.prog 16 #[.pointer (some ⟨p, 0, none⟩)] w fun e w' => e = .returned (.int .i64 (frees T (n - 402))) ∧ w' = w := by
  obtain ⟨was, now, ch, h1, h2, h3, h4, h5⟩ := h
  have HT := hid (fun k => h1.there k)
  have HP := hid h1.pages
  have HA := hid (fun k => h4.there k)
  have hn0 := h2.n0
  have hn1 := h2.n1
  clear h1 h2 h3 h4 h5
  go_enter Try.func16, Try.ntmps16
  go_wp2_with fail
  refine wp_scope_goto 0 (fun m a wr => ∃ (j : Nat) (x y : Int) (u5 u6 u7 u8 u9 u10 u11 u12 u13 u14 u15 u16 : Value), m = n - j ∧ j ≤ n - 402 ∧ x = (frees T j : Int) ∧ y = (j : Int) + 1 ∧ wr = w ∧
     a = ⟨#[.pointer (some ⟨p, 0, none⟩), undef, .int .i64 0, .int .i64 x, .int .i64 y, u5, u6, u7, u8, u9, u10, u11, u12, u13, u14, u15, u16, undef], []⟩) rfl ?pass ?first
  case first =>
    intro K hK
    go_wp2_with fail
    go_step3
    simp only [Exit.then]
    rename_i hK'
    refine hK' _ _ (hK n _ _ ⟨0, 0, 1, _, _, _, _, _, _, _, _, _, _, _, _, rfl, Nat.zero_le _, rfl, rfl, rfl, rfl⟩)
  case pass =>
    rintro m a wr ⟨j, x, y, u5, u6, u7, u8, u9, u10, u11, u12, u13, u14, u15, u16, rfl, hj, rfl, rfl, rfl, rfl⟩ K hK
    have HK := hid hK
    clear hK
    have hwj : IntKind.i64.wrap ((j : Int) + 1 + 1) = (j : Int) + 1 + 1 := by simp [IntKind.wrap, IntKind.bits, IntKind.signed]; omega
    by_cases hlt : (j : Int) + 1 < (n : Int) - 401
    · have hfl := frees_le T j
      have hwf : IntKind.i64.wrap ((frees T j : Int) + 1) = (frees T j : Int) + 1 := by simp [IntKind.wrap, IntKind.bits, IntKind.signed]; omega
      cases ht : thereP n now ((j : Int) + 1)
      · have T1 := hid ht
        clear ht
        go_wp2_with fail
        refine HP.out.mono ?_; rintro e1 wx ⟨rfl, hw⟩
        subst hw
        go_wp2_with fail
        refine (HT.out _).mono ?_; rintro e1 wx ⟨rfl, hw⟩
        subst hw
        rw [T1.out]
        go_wp2_with fail
        go_step3
        simp only [Exit.then, Exit.jump, true_and]
        have hfr : frees T (j + 1) = frees T j + 1 := by
          have h1 := HA.out ((j : Int) + 1)
          rw [T1.out] at h1
          show frees T j + (if (T.B ((j + 1 : Nat) : Int)).isSome then 0 else 1) = _
          rw [show ((j + 1 : Nat) : Int) = (j : Int) + 1 by push_cast; rfl, ← h1]
          rfl
        refine HK.out (n - (j + 1)) _ _ (by omega) ⟨j + 1, _, _, _, _, _, _, _, _, _, _, _, _, _, _, rfl, by omega, by simp [hfr], rfl, rfl, rfl⟩
      · have T1 := hid ht
        clear ht
        go_wp2_with fail
        refine HP.out.mono ?_; rintro e1 wx ⟨rfl, hw⟩
        subst hw
        go_wp2_with fail
        refine (HT.out _).mono ?_; rintro e1 wx ⟨rfl, hw⟩
        subst hw
        rw [T1.out]
        go_wp2_with fail
        go_step3
        simp only [Exit.then, Exit.jump, true_and]
        have hfr : frees T (j + 1) = frees T j := by
          have h1 := HA.out ((j : Int) + 1)
          rw [T1.out] at h1
          show frees T j + (if (T.B ((j + 1 : Nat) : Int)).isSome then 0 else 1) = _
          rw [show ((j + 1 : Nat) : Int) = (j : Int) + 1 by push_cast; rfl, ← h1]
          rfl
        refine HK.out (n - (j + 1)) _ _ (by omega) ⟨j + 1, _, _, _, _, _, _, _, _, _, _, _, _, _, _, rfl, by omega, by simp [hfr], rfl, rfl, rfl⟩
    · obtain rfl : j = n - 402 := by omega
      go_wp2_with fail
      refine HP.out.mono ?_; rintro e1 wx ⟨rfl, hw⟩
      subst hw
      go_wp2_with fail
      rw [Exit.jump_ret]
      go_ret
      exact ⟨rfl, rfl⟩
end Go.Proofs.Ytdilkgcoecipjaa

namespace Go.Proofs.Ytdilkgcoecipjaa
open Go.RowKit Go.Maps
set_option linter.unusedVariables false

theorem i64_small {x : Int} (h0 : -9223372036854775808 ≤ x) (h1 : x ≤ 9223372036854775807) : IntKind.i64.wrap x = x := by
  simp [IntKind.wrap, IntKind.bits, IntKind.signed]; omega

theorem openFew (w : World) (d : Nat) (fp : Nat → Prop) (n : Nat) (s : DS) (h : Dsk w d fp n s) (hn : n < 403) :
    Calls Try.prog 21 #[.pointer (some ⟨d, 0, none⟩)] w fun e w' => e = .returned (.tuple #[.pointer none, .int .i64 1]) ∧ w' = w := by
  have HS := hid (dSize_any w d fp n s h)
  have hn' : (n : Int) < 403 := by omega
  clear h
  go_enter Try.func21, Try.ntmps21
  go_wp2_with fail
  refine HS.out.mono ?_; rintro e1 wx ⟨rfl, hw⟩
  subst hw
  go_wp2_with fail
  go_ret2
  exact ⟨rfl, rfl⟩

/-- a new disk, its pages opened -/
theorem openNew (w : World) (n : Nat) (h0 : 403 ≤ n) (h1 : n ≤ 3000) (d : Nat) (fp : Nat → Prop) (hd : Dsk w d fp n (dNew n)) :
    Calls Try.prog 21 #[.pointer (some ⟨d, 0, none⟩)] w fun e w' => ∃ p F, e = .returned (.tuple #[.pointer (some ⟨p, 0, none⟩), .int .i64 0]) ∧ PgV w' p d F n (dNew n) as0 as0 false 0 ∧ Chg fp w w' ∧ w.heap.size ≤ p ∧ ∀ k, F k → fp k ∨ w.heap.size ≤ k :=
  PgV.open hd (home_new h0 h1) (abs_zero h0 _) (by show (0 : Int) + 3000 ≤ 1000000; decide)

theorem new_420 : newO 420 true as0 = (1, 0, { as0 with ever := 1 }.set 1 (some (pad504 []))) := rfl

end Go.Proofs.Ytdilkgcoecipjaa

namespace Go.Proofs.Ytdilkgcoecipjaa
open Go.RowKit Go.Maps
set_option linter.unusedVariables false

/-- a pager in memory that is newer than W's -/
def PgW (W w : World) (p d n : Nat) (s : DS) (S T : AS) (op : Bool) (N : Nat) : Prop :=
  ∃ F N', PgV w p d F n s S T op N' ∧ N' ≤ N ∧ Below W.heap.size W w ∧ ∀ k, F k → W.heap.size ≤ k
theorem PgW.below {W w : World} {p d n : Nat} {s : DS} {S T : AS} {op : Bool} {N : Nat} (h : PgW W w p d n s S T op N) : Below W.heap.size W w := by
  obtain ⟨F, N', h1, h2, h3, h4⟩ := h; exact h3
theorem PgW.new' {W w w' : World} {p d n : Nat} {s : DS} {S T : AS} {op : Bool} {N : Nat} (h : PgW W w p d n s S T op N) (hb : Below w.heap.size w w') : PgW W w' p d n s S T op N := by
  obtain ⟨F, N', h1, h2, h3, h4⟩ := h
  exact ⟨F, N', h1.new' hb, h2, h3.trans (hb.mono h3.size), h4⟩
theorem PgW.of {W w w' : World} {p d n : Nat} {F : Nat → Prop} {s : DS} {S T : AS} {op : Bool} {N : Nat} (hb : Below W.heap.size W w) (hF : ∀ k, F k → W.heap.size ≤ k) (h : PgTo w p d F n s S T op N w') : PgW W w' p d n s S T op (N + 1) := by
  obtain ⟨F', N', h1, h2, h3, h4⟩ := h
  exact ⟨F', N', h1, h2, hb.trans (h3.below hF hb.size), fun k hk => (h4 k hk).elim (hF k) (fun h => Nat.le_trans hb.size h)⟩
theorem PgW.begin {W w : World} {p d n : Nat} {s : DS} {S T : AS} {op : Bool} {N : Nat} (h : PgW W w p d n s S T op N) :
    Calls Try.prog 23 #[.pointer (some ⟨p, 0, none⟩)] w fun e w' => e = .returned (.int .i64 (if op then 12 else 0)) ∧ PgW W w' p d n s S T true (N + 1) := by
  obtain ⟨F, N', h1, h2, h3, h4⟩ := h
  refine h1.begin.mono ?_
  rintro e w' ⟨rfl, h⟩
  obtain ⟨F9, N9, a, b, c, dd⟩ := PgW.of h3 h4 h
  exact ⟨rfl, F9, N9, a, by omega, c, dd⟩
theorem PgW.new {W w : World} {p d n : Nat} {s : DS} {S T : AS} {op : Bool} {N : Nat} (h : PgW W w p d n s S T op N) (hN : N ≤ 1000000) :
    Calls Try.prog 24 #[.pointer (some ⟨p, 0, none⟩)] w fun e w' => e = .returned (.tuple #[.int .i64 (newO n op T).1, .int .i64 (newO n op T).2.1]) ∧ PgW W w' p d n s S (newO n op T).2.2 op (N + 1) := by
  obtain ⟨F, N', h1, h2, h3, h4⟩ := h
  refine (h1.new (by omega)).mono ?_
  rintro e w' ⟨rfl, h⟩
  obtain ⟨F9, N9, a, b, c, dd⟩ := PgW.of h3 h4 h
  exact ⟨rfl, F9, N9, a, by omega, c, dd⟩
theorem PgW.drop {W w : World} {p d n : Nat} {s : DS} {S T : AS} {op : Bool} {N : Nat} (h : PgW W w p d n s S T op N) (at_ : Int) (hN : N ≤ 1000000) :
    Calls Try.prog 49 #[.pointer (some ⟨p, 0, none⟩), .int .i64 at_] w fun e w' => e = .returned (.int .i64 (dropO op T at_).1) ∧ PgW W w' p d n s S (dropO op T at_).2 op (N + 1) := by
  obtain ⟨F, N', h1, h2, h3, h4⟩ := h
  refine (h1.drop at_ (by omega)).mono ?_
  rintro e w' ⟨rfl, h⟩
  obtain ⟨F9, N9, a, b, c, dd⟩ := PgW.of h3 h4 h
  exact ⟨rfl, F9, N9, a, by omega, c, dd⟩
theorem PgW.put {W w : World} {p d n : Nat} {s : DS} {S T : AS} {op : Bool} {N : Nat} (h : PgW W w p d n s S T op N) (at_ : Int) (v : Value) (l : List UInt8) (hv : Bs w v l) (hl : l.length ≤ 1000000) (hN : N ≤ 1000000) :
    Calls Try.prog 25 #[.pointer (some ⟨p, 0, none⟩), .int .i64 at_, v] w fun e w' => e = .returned (.int .i64 (putO op T at_ l).1) ∧ PgW W w' p d n s S (putO op T at_ l).2 op (N + 1) := by
  obtain ⟨F, N', h1, h2, h3, h4⟩ := h
  refine (h1.put at_ v l hv hl (by omega)).mono ?_
  rintro e w' ⟨rfl, h⟩
  obtain ⟨F9, N9, a, b, c, dd⟩ := PgW.of h3 h4 h
  exact ⟨rfl, F9, N9, a, by omega, c, dd⟩
theorem PgW.setRoot {W w : World} {p d n : Nat} {s : DS} {S T : AS} {op : Bool} {N : Nat} (h : PgW W w p d n s S T op N) (at_ : Int) (hat : at_ ≤ 9223372036854775807) :
    Calls Try.prog 44 #[.pointer (some ⟨p, 0, none⟩), .int .i64 at_] w fun e w' => e = .returned (.int .i64 (rootO op T at_).1) ∧ PgW W w' p d n s S (rootO op T at_).2 op (N + 1) := by
  obtain ⟨F, N', h1, h2, h3, h4⟩ := h
  refine (h1.setRoot at_ hat).mono ?_
  rintro e w' ⟨rfl, h⟩
  obtain ⟨F9, N9, a, b, c, dd⟩ := PgW.of h3 h4 h
  exact ⟨rfl, F9, N9, a, by omega, c, dd⟩
theorem PgW.get {W w : World} {p d n : Nat} {s : DS} {S T : AS} {op : Bool} {N : Nat} (h : PgW W w p d n s S T op N) (at_ : Int) :
    Calls Try.prog 62 #[.pointer (some ⟨p, 0, none⟩), .int .i64 at_] w fun e w' => ∃ q m c, e = .returned (.tuple #[.slice q m c, .int .i64 (getA T at_).2]) ∧ m = (getA T at_).1.length ∧
      Bs w' (.slice q m c) (getA T at_).1 ∧ PgW W w' p d n s S T op N ∧ ∀ g, Value.ownBlock (.slice q m c) = some g → w.heap.size ≤ g := by
  have h' := h
  obtain ⟨F, N', h1, h2, h3, h4⟩ := h
  refine (h1.get at_).mono ?_
  rintro e w' ⟨q, m, c, rfl, hm, hb, hbe, hgg⟩
  exact ⟨q, m, c, rfl, hm, hb, h'.new' hbe, hgg⟩
theorem PgW.free {W w : World} {p d n : Nat} {s : DS} {S T : AS} {op : Bool} {N : Nat} (h : PgW W w p d n s S T op N) :
    Calls Try.prog 16 #[.pointer (some ⟨p, 0, none⟩)] w fun e w' => e = .returned (.int .i64 (frees T (n - 402))) ∧ w' = w := by
  obtain ⟨F, N', h1, h2, h3, h4⟩ := h
  exact h1.free
theorem PgW.root {W w : World} {p d n : Nat} {s : DS} {S T : AS} {op : Bool} {N : Nat} (h : PgW W w p d n s S T op N) :
    Calls Try.prog 45 #[.pointer (some ⟨p, 0, none⟩)] w fun e w' => e = .returned (.int .i64 T.root) ∧ w' = w := by
  obtain ⟨F, N', h1, h2, h3, h4⟩ := h
  exact h1.root
/-- a new disk's pages -/
theorem openW {W w : World} (hW : Below W.heap.size W w) (n : Nat) (h0 : 403 ≤ n) (h1 : n ≤ 3000) (d : Nat) (fp : Nat → Prop) (hd : Dsk w d fp n (dNew n)) (hfp : ∀ k, fp k → W.heap.size ≤ k) :
    Calls Try.prog 21 #[.pointer (some ⟨d, 0, none⟩)] w fun e w' => ∃ p, e = .returned (.tuple #[.pointer (some ⟨p, 0, none⟩), .int .i64 0]) ∧ PgW W w' p d n (dNew n) as0 as0 false 0 := by
  refine (openNew w n h0 h1 d fp hd).mono ?_
  rintro e w' ⟨p, F, rfl, hv, hc, hp, hF⟩
  exact ⟨p, rfl, F, 0, hv, Nat.le_refl _, hW.trans (hc.below hfp hW.size), fun k hk => (hF k hk).elim (hfp k) (fun h => Nat.le_trans hW.size h)⟩
end Go.Proofs.Ytdilkgcoecipjaa
