/- package pager: pages as the document has them: plain laws. -/
import Derived.Test.YtdilkgcoecipjaaPagM
import Derived.Test.YtdilkgcoecipjaaNumLe
import Derived.Test.YtdilkgcoecipjaaPureLog
namespace Go.Proofs.Ytdilkgcoecipjaa
open Go.RowKit Go.Maps
set_option linter.unusedVariables false

/-- pages: those in use, the free ones that were in use, the last one first; the last one that ever was; the root -/
structure AS where
  B : Int → Option (List UInt8)
  gone : List Int
  ever : Int
  root : Int
def as0 : AS := ⟨fun _ => none, [], 0, 0⟩
def AS.set (A : AS) (k : Int) (o : Option (List UInt8)) : AS := { A with B := fun q => if q = k then o else A.B q }
def newA (n : Nat) (A : AS) : Int × Int × AS :=
  match A.gone with
  | g :: gs => (g, 0, { A with gone := gs }.set g (some (pad504 [])))
  | [] => if A.ever + 1 < (n : Int) - 401 then (A.ever + 1, 0, { A with ever := A.ever + 1 }.set (A.ever + 1) (some (pad504 []))) else (0, 14, A)
def dropA (A : AS) (k : Int) : Int × AS :=
  if (A.B k).isSome then (0, { A with gone := k :: A.gone }.set k none) else (1, A)
def putA (A : AS) (k : Int) (l : List UInt8) : Int × AS :=
  if (A.B k).isSome then (if 504 < l.length then (5, A) else (0, A.set k (some (pad504 l)))) else (1, A)
def rootA (A : AS) (k : Int) : Int × AS := if k < 0 then (1, A) else (0, { A with root := k })

/-- the free pages hang together -/
def Chn (R : Nat → List UInt8) : List Int → Int → Prop
  | [], f => f = 0
  | g :: gs, f => f = g ∧ ∃ f', (R g.toNat).take 8 = le8 f' ∧ 0 ≤ f' ∧ f' < 3000 ∧ Chn R gs f'
theorem Chn.congr {R R' : Nat → List UInt8} : ∀ {gs : List Int} {f : Int}, (∀ g ∈ gs, R g.toNat = R' g.toNat) → Chn R gs f → Chn R' gs f
  | [], _, _, h => h
  | g :: gs, f, hR, ⟨h1, f', h2, h3, h4, h5⟩ => ⟨h1, f', by rw [← hR g (List.mem_cons_self ..)]; exact h2, h3, h4, h5.congr (fun q hq => hR q (List.mem_cons_of_mem _ hq))⟩

/-- a head, and what pages read, are such pages -/
structure Abs (n : Nat) (now : HD) (R : Nat → List UInt8) (A : AS) : Prop where
  used : now.used.length = 375
  root : now.root = A.root
  ever : now.ever = A.ever
  ev0 : 0 ≤ A.ever
  ev1 : A.ever < (n : Int) - 401
  rt0 : 0 ≤ A.root
  rt1 : A.root ≤ 9223372036854775807
  there : ∀ k, thereP n now k = (A.B k).isSome
  page : ∀ k l, A.B k = some l → R k.toNat = l ∧ l.length = 504
  bd : ∀ k l, A.B k = some l → 1 ≤ k ∧ k ≤ A.ever
  chain : Chn R A.gone now.free
  gbd : ∀ g ∈ A.gone, 1 ≤ g ∧ g ≤ A.ever ∧ A.B g = none
  nodup : A.gone.Nodup

theorem bitOf_zero (k : Int) : bitOf (List.replicate 375 0) k = false := by
  by_cases h : 0 < k ∧ k < 3000
  · obtain ⟨j, rfl⟩ : ∃ j : Nat, k = (j : Int) := ⟨k.toNat, by omega⟩
    rw [bitOf_nat h.1 h.2]
    have : (List.replicate 375 (0 : UInt8)).getD (j / 8) 0 = 0 := by
      rw [List.getD_eq_getElem?_getD, List.getElem?_replicate]
      split <;> rfl
    rw [this]
    simp
  · exact bitOf_not h
theorem abs_zero {n : Nat} (hn : 403 ≤ n) (R : Nat → List UInt8) : Abs n hd0 R as0 :=
  ⟨List.length_replicate, rfl, rfl, by simp [as0], by simp only [as0]; omega, by simp [as0], by simp [as0], fun k => (by unfold thereP hd0; rw [bitOf_zero]; rfl), fun _ _ h => (by cases h), fun _ _ h => (by cases h), rfl, fun _ h => (by cases h), List.nodup_nil⟩
theorem Abs.free_bd {n : Nat} {now : HD} {R : Nat → List UInt8} {A : AS} (h : Abs n now R A) (hn3 : n ≤ 3000) : 0 ≤ now.free ∧ now.free < 3000 := by
  have hc := h.chain
  have hg := h.gbd
  have := h.ev1
  rcases hA : A.gone with _ | ⟨g, gs⟩
  · rw [hA] at hc
    have hc : now.free = 0 := hc
    omega
  · rw [hA] at hc hg
    have h1 : now.free = g := hc.1
    have h2 := hg g (List.mem_cons_self ..)
    omega
theorem Abs.congr {n : Nat} {now : HD} {R R' : Nat → List UInt8} {A : AS} (h : Abs n now R A) (hR : ∀ k : Nat, 1 ≤ k → 401 + k < n → R k = R' k) : Abs n now R' A := by
  have h9 := h.ev1
  exact ⟨h.used, h.root, h.ever, h.ev0, h.ev1, h.rt0, h.rt1, h.there, fun k l e => by
    have h1 := h.bd k l e
    rw [← hR k.toNat (by omega) (by omega)]
    exact h.page k l e, h.bd, h.chain.congr (fun g hg => by
    have h1 := h.gbd g hg
    exact hR g.toNat (by omega) (by omega)), h.gbd, h.nodup⟩

set_option maxRecDepth 100000 in
theorem turn_bitF : ∀ (b : Fin 256) (k j : Fin 8), decide (((UInt8.ofNat b.val) &&& ~~~ ((1 : UInt8) <<< (UInt8.ofNat k.val))).toNat / 2 ^ j.val % 2 = 1) = (if j = k then false else decide (b.val / 2 ^ j.val % 2 = 1)) ∧
    decide ((((UInt8.ofNat b.val) &&& ~~~ ((1 : UInt8) <<< (UInt8.ofNat k.val))) ||| ((1 : UInt8) <<< (UInt8.ofNat k.val))).toNat / 2 ^ j.val % 2 = 1) = (if j = k then true else decide (b.val / 2 ^ j.val % 2 = 1)) := by decide +kernel
theorem turn_bit (b : UInt8) (k j : Nat) (is : Bool) : decide ((turnB b k is).toNat / 2 ^ (j % 8) % 2 = 1) = (if j % 8 = k % 8 then is else decide (b.toNat / 2 ^ (j % 8) % 2 = 1)) := by
  have h := turn_bitF ⟨b.toNat, b.toNat_lt⟩ ⟨k % 8, Nat.mod_lt _ (by omega)⟩ ⟨j % 8, Nat.mod_lt _ (by omega)⟩
  simp only [Fin.mk.injEq, UInt8.ofNat_toNat] at h
  unfold turnB
  cases is
  · rw [if_neg (by decide)]; exact h.1
  · rw [if_pos rfl]; exact h.2
theorem bitOf_turn {h : HD} (hu : h.used.length = 375) {k : Nat} (hk0 : 0 < k) (hk : k < 3000) (is : Bool) (q : Int) : bitOf (turnH h k is).used q = if q = (k : Int) then is else bitOf h.used q := by
  by_cases hq : 0 < q ∧ q < 3000
  · obtain ⟨j, rfl⟩ : ∃ j : Nat, q = (j : Int) := ⟨q.toNat, by omega⟩
    rw [bitOf_nat hq.1 hq.2, bitOf_nat hq.1 hq.2]
    show decide (((h.used.set (k / 8) (turnB (h.used.getD (k / 8) 0) k is)).getD (j / 8) 0).toNat / 2 ^ (j % 8) % 2 = 1) = _
    rw [List.getD_eq_getElem?_getD, List.getElem?_set]
    by_cases e : k / 8 = j / 8
    · rw [if_pos e, if_pos (by omega), Option.getD_some, turn_bit]
      by_cases e2 : j % 8 = k % 8
      · rw [if_pos e2, if_pos (by omega)]
      · rw [if_neg e2, if_neg (by omega), e]
    · rw [if_neg e, if_neg (by omega), List.getD_eq_getElem?_getD]
  · rw [bitOf_not hq, bitOf_not hq, if_neg (by omega)]
theorem there_turn {n : Nat} {h : HD} (hu : h.used.length = 375) {k : Nat} (hk0 : 0 < k) (hk : k < 3000) (hkn : (k : Int) < (n : Int) - 401) (is : Bool) (q : Int) : thereP n (turnH h k is) q = if q = (k : Int) then is else thereP n h q := by
  unfold thereP
  rw [bitOf_turn hu hk0 hk]
  by_cases e : q = (k : Int)
  · rw [if_pos e, if_pos e, decide_eq_true (by omega), Bool.and_true]
  · rw [if_neg e, if_neg e]
theorem there_ext {n : Nat} {h h' : HD} (e : h.used = h'.used) (k : Int) : thereP n h k = thereP n h' k := by unfold thereP; rw [e]
theorem turn_length (h : HD) (k : Nat) (is : Bool) : (turnH h k is).used.length = h.used.length := by simp [turnH]
theorem pgRead_chP (s : DS) (ch : Int → Option (List UInt8)) (at_ : Int) (l : List UInt8) (k : Nat) : pgRead s (chP ch at_ l) k = if (k : Int) = at_ then pad504 l else pgRead s ch k := by
  unfold pgRead chP
  split <;> rfl
theorem pad504_length {l : List UInt8} (h : l.length ≤ 504) : (pad504 l).length = 504 := by simp [pad504]; omega
theorem AS.set_B (A : AS) (k : Int) (o : Option (List UInt8)) (q : Int) : (A.set k o).B q = if q = k then o else A.B q := rfl
theorem le8_back {f : Int} (h0 : 0 ≤ f) (h1 : f < 3000) : wrap64 (num (le8 f) : Nat) = f := num_le8s (by omega) (by omega)

theorem Abs.new {n : Nat} {s : DS} {now : HD} {ch : Int → Option (List UInt8)} {A : AS} (h : Abs n now (pgRead s ch) A) (hn3 : n ≤ 3000) :
    (newP n s true now ch).1 = (newA n A).1 ∧ (newP n s true now ch).2.1 = (newA n A).2.1 ∧ Abs n (newP n s true now ch).2.2.1 (pgRead s (newP n s true now ch).2.2.2) (newA n A).2.2 := by
  have hev0 := h.ev0
  have hev1 := h.ev1
  have hnew : newP n s true now ch = if (freshP n s now ch).2.1 = 0 then ((freshP n s now ch).1, 0, turnH (freshP n s now ch).2.2 (freshP n s now ch).1.toNat true, chP ch (freshP n s now ch).1 []) else (0, (freshP n s now ch).2.1, (freshP n s now ch).2.2, ch) := if_neg (by simp)
  rcases hA : A.gone with _ | ⟨g, gs⟩
  · have hfree : now.free = 0 := by have := h.chain; rw [hA] at this; exact this
    have hnA : newA n A = if A.ever + 1 < (n : Int) - 401 then (A.ever + 1, 0, { A with ever := A.ever + 1 }.set (A.ever + 1) (some (pad504 []))) else (0, 14, A) := by unfold newA; rw [hA]
    have hw : wrap64 (now.ever + 1) = A.ever + 1 := by
      rw [h.ever]; unfold wrap64; omega
    have hB : A.B (A.ever + 1) = none := by
      rcases e : A.B (A.ever + 1) with _ | l
      · rfl
      · have := h.bd _ _ e; omega
    have hth : thereP n now (A.ever + 1) = false := by rw [h.there, hB]; rfl
    have hfr : freshP n s now ch = if (n : Int) - 401 ≤ A.ever + 1 then (0, 14, now) else (A.ever + 1, 0, { now with ever := A.ever + 1 }) := by
      unfold freshP
      rw [if_neg (by omega), hw, hth]
      by_cases e : (n : Int) - 401 ≤ A.ever + 1
      · rw [if_pos e, if_pos (.inr (.inl e))]
      · rw [if_neg e, if_neg (by rintro (h1 | h1 | h1) <;> first | omega | cases h1)]
    by_cases e : A.ever + 1 < (n : Int) - 401
    · rw [if_neg (by omega)] at hfr
      rw [hnew, hnA, if_pos e, hfr, if_pos rfl]
      refine ⟨rfl, rfl, ?_⟩
      obtain ⟨k, hk⟩ : ∃ k : Nat, A.ever + 1 = (k : Int) := ⟨(A.ever + 1).toNat, by omega⟩
      simp only [hk, Int.toNat_natCast]
      refine ⟨(turn_length _ _ _).trans h.used, h.root, rfl, by show (0 : Int) ≤ (k : Int); omega, by show (k : Int) < _; omega, h.rt0, h.rt1, fun q => ?_, fun q l hq => ?_, fun q l hq => ?_, ?_, ?_, ?_⟩
      · rw [there_turn (h := { now with ever := (k : Int) }) h.used (by omega) (by omega) (by omega), AS.set_B]
        by_cases e2 : q = (k : Int)
        · rw [if_pos e2, if_pos e2]; rfl
        · rw [if_neg e2, if_neg e2]; exact (there_ext rfl q).trans (h.there q)
      · rw [AS.set_B] at hq
        rw [pgRead_chP]
        by_cases e2 : q = (k : Int)
        · rw [if_pos e2] at hq
          injection hq with hq
          rw [if_pos (by omega), hq]
          exact ⟨rfl, by rw [← hq]; exact pad504_length (by simp)⟩
        · rw [if_neg e2] at hq
          have h1 := h.bd q l hq
          rw [if_neg (by omega)]
          exact h.page q l hq
      · rw [AS.set_B] at hq
        show 1 ≤ q ∧ q ≤ (k : Int)
        by_cases e2 : q = (k : Int)
        · omega
        · rw [if_neg e2] at hq
          have h1 := h.bd q l hq
          omega
      · show Chn _ A.gone now.free
        rw [hA]
        exact hfree
      · show ∀ q ∈ A.gone, _
        rw [hA]
        intro q hq
        cases hq
      · exact h.nodup
    · rw [if_pos (by omega)] at hfr
      rw [hnew, hnA, if_neg e, hfr, if_neg (by simp)]
      exact ⟨rfl, rfl, h⟩
  · have hc := h.chain
    rw [hA] at hc
    obtain ⟨hfree, f', hf1, hf2, hf3, hf4⟩ := hc
    have hgb := h.gbd
    have hnd := h.nodup
    rw [hA] at hgb hnd
    have hg := hgb g (List.mem_cons_self ..)
    have hgn : ∀ q ∈ gs, q ≠ g := fun q hq e => (List.nodup_cons.1 hnd).1 (e ▸ hq)
    have hth : thereP n now g = false := by rw [h.there, hg.2.2]; rfl
    have hfr : freshP n s now ch = (g, 0, { now with free := f' }) := by
      unfold freshP
      rw [if_pos ⟨by omega, by omega, by rw [hfree]; exact hth⟩, hfree, hf1, le8_back hf2 hf3]
    have hnA : newA n A = (g, 0, { A with gone := gs }.set g (some (pad504 []))) := by unfold newA; rw [hA]
    rw [hnew, hnA, hfr, if_pos rfl]
    refine ⟨rfl, rfl, ?_⟩
    obtain ⟨k, hk⟩ : ∃ k : Nat, g = (k : Int) := ⟨g.toNat, by omega⟩
    subst hk
    simp only [Int.toNat_natCast]
    refine ⟨(turn_length _ _ _).trans h.used, h.root, h.ever, h.ev0, h.ev1, h.rt0, h.rt1, fun q => ?_, fun q l hq => ?_, fun q l hq => ?_, ?_, ?_, ?_⟩
    · rw [there_turn (h := { now with free := f' }) h.used (by omega) (by omega) (by omega), AS.set_B]
      by_cases e2 : q = (k : Int)
      · rw [if_pos e2, if_pos e2]; rfl
      · rw [if_neg e2, if_neg e2]; exact (there_ext rfl q).trans (h.there q)
    · rw [AS.set_B] at hq
      rw [pgRead_chP]
      by_cases e2 : q = (k : Int)
      · rw [if_pos e2] at hq
        injection hq with hq
        rw [if_pos (by omega), hq]
        exact ⟨rfl, by rw [← hq]; exact pad504_length (by simp)⟩
      · rw [if_neg e2] at hq
        have h1 := h.bd q l hq
        rw [if_neg (by omega)]
        exact h.page q l hq
    · rw [AS.set_B] at hq
      show 1 ≤ q ∧ q ≤ A.ever
      by_cases e2 : q = (k : Int)
      · omega
      · rw [if_neg e2] at hq
        exact h.bd q l hq
    · exact hf4.congr (fun q hq => by
        have h1 := hgb q (List.mem_cons_of_mem _ hq)
        have h2 := hgn q hq
        rw [pgRead_chP, if_neg (by omega)])
    · intro q hq
      have h1 := hgb q (List.mem_cons_of_mem _ hq)
      exact ⟨h1.1, h1.2.1, by rw [AS.set_B, if_neg (hgn q hq)]; exact h1.2.2⟩
    · exact (List.nodup_cons.1 hnd).2

theorem Abs.drop {n : Nat} {s : DS} {now : HD} {ch : Int → Option (List UInt8)} {A : AS} (h : Abs n now (pgRead s ch) A) (hn3 : n ≤ 3000) (at_ : Int) :
    (dropP n true now ch at_).1 = (dropA A at_).1 ∧ Abs n (dropP n true now ch at_).2.1 (pgRead s (dropP n true now ch at_).2.2) (dropA A at_).2 := by
  have hd : dropP n true now ch at_ = if thereP n now at_ = false then (1, now, ch) else (0, { turnH now at_.toNat false with free := at_ }, chP ch at_ (le8 now.free)) := if_neg (by simp)
  have hev1 := h.ev1
  have hfb := h.free_bd hn3
  unfold dropA
  rw [hd, h.there]
  rcases e : A.B at_ with _ | l0
  · rw [if_pos (show (none : Option (List UInt8)).isSome = false from rfl), if_neg (by simp : ¬ (none : Option (List UInt8)).isSome = true)]
    exact ⟨rfl, h⟩
  · rw [if_neg (by simp : ¬ (some l0).isSome = false), if_pos (show (some l0).isSome = true from rfl)]
    refine ⟨rfl, ?_⟩
    have hb := h.bd _ _ e
    have hpg := h.page _ _ e
    obtain ⟨k, rfl⟩ : ∃ k : Nat, at_ = (k : Int) := ⟨at_.toNat, by omega⟩
    simp only [Int.toNat_natCast] at *
    have hkg : ∀ q ∈ A.gone, q ≠ (k : Int) := fun q hq e2 => by
      have h1 := h.gbd q hq
      rw [e2, e] at h1
      exact absurd h1.2.2 (by simp)
    refine ⟨(turn_length _ _ _).trans h.used, h.root, h.ever, h.ev0, h.ev1, h.rt0, h.rt1, fun q => ?_, fun q l hq => ?_, fun q l hq => ?_, ?_, ?_, ?_⟩
    · refine (there_ext (h' := turnH now k false) rfl q).trans ?_
      rw [there_turn h.used (by omega) (by omega) (by omega), AS.set_B]
      by_cases e2 : q = (k : Int)
      · rw [if_pos e2, if_pos e2]; rfl
      · rw [if_neg e2, if_neg e2, h.there]
    · rw [AS.set_B] at hq
      rw [pgRead_chP]
      by_cases e2 : q = (k : Int)
      · rw [if_pos e2] at hq
        cases hq
      · rw [if_neg e2] at hq
        have h1 := h.bd q l hq
        rw [if_neg (by omega)]
        exact h.page q l hq
    · rw [AS.set_B] at hq
      by_cases e2 : q = (k : Int)
      · rw [if_pos e2] at hq
        cases hq
      · rw [if_neg e2] at hq
        exact h.bd q l hq
    · refine ⟨rfl, now.free, ?_, hfb.1, hfb.2, h.chain.congr (fun q hq => ?_)⟩
      · rw [pgRead_chP, if_pos (by simp)]
        unfold pad504
        rw [List.take_left' (le8_length _)]
      · have h1 := h.gbd q hq
        have h2 := hkg q hq
        rw [pgRead_chP, if_neg (by omega)]
    · intro q hq
      rw [AS.set_B]
      rcases List.mem_cons.1 hq with rfl | hq
      · exact ⟨by omega, by show (k : Int) ≤ A.ever; omega, if_pos rfl⟩
      · have h1 := h.gbd q hq
        exact ⟨h1.1, h1.2.1, by rw [if_neg (hkg q hq)]; exact h1.2.2⟩
    · exact List.nodup_cons.2 ⟨fun hq => hkg _ hq rfl, h.nodup⟩

theorem Abs.put {n : Nat} {s : DS} {now : HD} {ch : Int → Option (List UInt8)} {A : AS} (h : Abs n now (pgRead s ch) A) (at_ : Int) (l : List UInt8) :
    (putP n true now ch at_ l).1 = (putA A at_ l).1 ∧ Abs n now (pgRead s (putP n true now ch at_ l).2) (putA A at_ l).2 := by
  have hd : putP n true now ch at_ l = if thereP n now at_ = false then (1, ch) else if 504 < l.length then (5, ch) else (0, chP ch at_ l) := if_neg (by simp)
  unfold putA
  rw [hd, h.there]
  rcases e : A.B at_ with _ | l0
  · rw [if_pos (show (none : Option (List UInt8)).isSome = false from rfl), if_neg (by simp : ¬ (none : Option (List UInt8)).isSome = true)]
    exact ⟨rfl, h⟩
  · rw [if_neg (by simp : ¬ (some l0).isSome = false), if_pos (show (some l0).isSome = true from rfl)]
    by_cases h5 : 504 < l.length
    · rw [if_pos h5, if_pos h5]
      exact ⟨rfl, h⟩
    · rw [if_neg h5, if_neg h5]
      refine ⟨rfl, ?_⟩
      have hb := h.bd _ _ e
      obtain ⟨k, rfl⟩ : ∃ k : Nat, at_ = (k : Int) := ⟨at_.toNat, by omega⟩
      have hkg : ∀ q ∈ A.gone, q ≠ (k : Int) := fun q hq e2 => by
        have h1 := h.gbd q hq
        rw [e2, e] at h1
        exact absurd h1.2.2 (by simp)
      refine ⟨h.used, h.root, h.ever, h.ev0, h.ev1, h.rt0, h.rt1, fun q => ?_, fun q l' hq => ?_, fun q l' hq => ?_, ?_, ?_, h.nodup⟩
      · rw [h.there, AS.set_B]
        by_cases e2 : q = (k : Int)
        · rw [if_pos e2, e2, e]; rfl
        · rw [if_neg e2]
      · rw [AS.set_B] at hq
        rw [pgRead_chP]
        by_cases e2 : q = (k : Int)
        · rw [if_pos e2] at hq
          injection hq with hq
          rw [if_pos (by omega), hq]
          exact ⟨rfl, by rw [← hq]; exact pad504_length (by omega)⟩
        · rw [if_neg e2] at hq
          have h1 := h.bd q l' hq
          rw [if_neg (by omega)]
          exact h.page q l' hq
      · rw [AS.set_B] at hq
        by_cases e2 : q = (k : Int)
        · subst e2; exact hb
        · rw [if_neg e2] at hq
          exact h.bd q l' hq
      · exact h.chain.congr (fun q hq => by
          have h1 := h.gbd q hq
          have h2 := hkg q hq
          rw [pgRead_chP, if_neg (by omega)])
      · intro q hq
        have h1 := h.gbd q hq
        exact ⟨h1.1, h1.2.1, by rw [AS.set_B, if_neg (hkg q hq)]; exact h1.2.2⟩

theorem Abs.setRoot {n : Nat} {now : HD} {R : Nat → List UInt8} {A : AS} (h : Abs n now R A) (at_ : Int) (hat : at_ ≤ 9223372036854775807) :
    (if at_ < 0 then (1 : Int) else 0) = (rootA A at_).1 ∧ Abs n (if at_ < 0 then now else { now with root := at_ }) R (rootA A at_).2 := by
  unfold rootA
  by_cases e : at_ < 0
  · rw [if_pos e, if_pos e, if_pos e]; exact ⟨rfl, h⟩
  · rw [if_neg e, if_neg e, if_neg e]
    exact ⟨rfl, h.used, rfl, h.ever, h.ev0, h.ev1, by show 0 ≤ at_; omega, hat, h.there, h.page, h.bd, h.chain, h.gbd, h.nodup⟩
end Go.Proofs.Ytdilkgcoecipjaa
