/- package pager: what a commit leaves: plain laws. -/
import Derived.Test.YtiphekepglihlaaPagD
namespace Go.Proofs.Ytiphekepglihlaa
open Go.RowKit Go.Maps
set_option linter.unusedVariables false

theorem Abs.ok {n : Nat} {now : HD} {R : Nat → List UInt8} {A : AS} (h : Abs n now R A) (hn3 : n ≤ 3000) : HdOk now := by
  have h1 := h.free_bd hn3
  have h2 := h.ev0
  have h3 := h.ev1
  have h4 := h.rt0
  have h5 := h.rt1
  have h6 := h.root
  have h7 := h.ever
  exact ⟨h.used, by omega, by omega, by omega, by omega, by omega, by omega⟩
theorem hdP_hdB {h : HD} (ok : HdOk h) : hdP (pad (hdB h)) = h := by
  have e0 : hdB h = le8 h.root ++ (le8 h.ever ++ (le8 h.free ++ h.used)) := by unfold hdB; simp only [List.append_assoc]
  have e1 : (pad (hdB h)).take 8 = le8 h.root := by rw [e0]; exact pad_take (le8_length _)
  have e2 : (pad (hdB h)).drop 8 = (le8 h.ever ++ (le8 h.free ++ h.used)) ++ List.replicate (512 - (hdB h).length) 0 := by rw [e0]; exact pad_drop (le8_length _)
  have e3 : ((pad (hdB h)).drop 8).take 8 = le8 h.ever := by rw [e2, List.append_assoc, List.take_left' (le8_length _)]
  have e4 : (pad (hdB h)).drop 16 = (le8 h.free ++ h.used) ++ List.replicate (512 - (hdB h).length) 0 := by
    rw [show 16 = 8 + 8 by rfl, ← List.drop_drop, e2, List.append_assoc, List.drop_left' (le8_length _)]
  have e5 : ((pad (hdB h)).drop 16).take 8 = le8 h.free := by rw [e4, List.append_assoc, List.take_left' (le8_length _)]
  have e6 : ((pad (hdB h)).drop 24).take 375 = h.used := by
    rw [show 24 = 16 + 8 by rfl, ← List.drop_drop, e4, List.append_assoc, List.drop_left' (le8_length _), List.take_left' ok.used]
  unfold hdP
  rw [e1, e3, e5, e6, num_le8s ok.r0 ok.r1, num_le8s ok.e0 ok.e1, num_le8s ok.f0 ok.f1]

/-- a disk's sectors that hold such pages, and no log -/
structure Pgs (n : Nat) (F : List UInt8) (was : HD) (S : AS) : Prop where
  log : row F 0 = z512
  head : hdP (row F 401) = was
  abs : Abs n was (fun k => (row F (401 + k)).take 504) S
theorem Pgs.home {n : Nat} {s : DS} {F : List UInt8} {was : HD} {S : AS} (h : Pgs n F was S) (hr : Rest n s F) (h0 : 403 ≤ n) (h1 : n ≤ 3000) : Home n s was ∧ Abs n was (pgRead s fun _ => none) S := by
  have e := hr.now
  refine ⟨⟨h0, h1, by rw [e]; exact hr, by rw [e]; exact h.log, by rw [e]; exact h.head⟩, h.abs.congr (fun k _ _ => ?_)⟩
  unfold pgRead
  rw [e]
  rfl
theorem Home.pgs {n : Nat} {s : DS} {was : HD} {S : AS} (h : Home n s was) (hS : Abs n was (pgRead s fun _ => none) S) : Pgs n s.now was S := ⟨h.log, h.head, hS.congr (fun k _ _ => rfl)⟩
theorem Pgs.pa {n : Nat} {K F : List UInt8} {was : HD} {S : AS} (h : Pgs n K was S) (hn : 403 ≤ n) (hp : PA n K F) : Pgs n F was S :=
  ⟨hp.1, by rw [hp.2 401 (Nat.le_refl _) (by omega)]; exact h.head, h.abs.congr (fun k _ hk => by rw [hp.2 (401 + k) (by omega) hk])⟩

theorem chW_pos {was now : HD} {ch : Int → Option (List UInt8)} {k : Int} (hk : 1 ≤ k) : chW was now ch k = ch k := by
  unfold chW
  split
  · rfl
  · unfold chP
    rw [if_neg (by omega)]
theorem chW_zero {was now : HD} {ch : Int → Option (List UInt8)} (h : ¬ now = was) : chW was now ch 0 = some (pad504 (hdB now)) := by
  unfold chW
  rw [if_neg (fun e => h (hdEq_iff.1 e))]
  unfold chP
  rw [if_pos rfl]
theorem chW_same {was now : HD} {ch : Int → Option (List UInt8)} (h : now = was) : chW was now ch = ch := by
  unfold chW
  rw [if_pos (hdEq_iff.2 h)]

structure ComIn (n : Nat) (s : DS) (was now : HD) (ch : Int → Option (List UInt8)) (S T : AS) (ks : List Int) : Prop where
  home : Home n s was
  abs : Abs n was (pgRead s fun _ => none) S
  new : Abs n now (pgRead s ch) T
  bd : ∀ k l, ch k = some l → 1 ≤ k ∧ k ≤ T.ever
  len : ∀ k l, ch k = some l → l.length = 504
  nd : ks.Nodup
  mem : ∀ k, k ∈ ks ↔ (chW was now ch k).isSome = true
  few : ks.length ≤ 400

theorem ComIn.key {n : Nat} {s : DS} {was now : HD} {ch : Int → Option (List UInt8)} {S T : AS} {ks : List Int} (h : ComIn n s was now ch S T ks) {k : Int} (hk : k ∈ ks) : 0 ≤ k ∧ 401 + k < n ∧ ∃ l, chW was now ch k = some l ∧ l.length = 504 := by
  obtain ⟨l, hl⟩ := Option.isSome_iff_exists.1 ((h.mem k).1 hk)
  have h1 := h.new.ev1
  have h0 := h.home.n0
  by_cases e : now = was
  · have hl' := hl
    rw [chW_same e] at hl'
    have h2 := h.bd k l hl'
    exact ⟨by omega, by omega, l, hl, h.len k l hl'⟩
  · by_cases e0 : k = 0
    · subst e0
      have hl' := hl
      rw [chW_zero e] at hl'
      injection hl' with hl'
      exact ⟨by omega, by omega, l, hl, by rw [← hl']; exact pad504_length (by rw [hdB_length h.new.used]; omega)⟩
    · have hl' := hl
      unfold chW at hl'
      rw [if_neg (fun e2 => e (hdEq_iff.1 e2))] at hl'
      unfold chP at hl'
      rw [if_neg e0] at hl'
      have h2 := h.bd k l hl'
      exact ⟨by omega, by omega, l, hl, h.len k l hl'⟩
theorem ComIn.lok {n : Nat} {s : DS} {was now : HD} {ch : Int → Option (List UInt8)} {S T : AS} {ks : List Int} (h : ComIn n s was now ch S T ks) (hne : ¬ ks.length = 0) : LOk n (putsOf (chW was now ch) ks) := by
  refine ⟨by rw [putsOf_length]; omega, by rw [putsOf_length]; exact h.few, fun q hq => ?_, ?_⟩
  · obtain ⟨k, hk, rfl⟩ := List.mem_map.1 hq
    obtain ⟨h1, h2, l, hl, h3⟩ := h.key hk
    refine ⟨by show 401 ≤ 401 + k; omega, h2, ?_⟩
    show ((chW was now ch k).getD []).length ≤ 504
    rw [hl, Option.getD_some]
    omega
  · unfold putsOf
    refine List.pairwise_map.2 (h.nd.imp fun {a b} hab e => hab ?_)
    have e : 401 + a = 401 + b := e
    omega
theorem ComIn.pc {n : Nat} {s : DS} {was now : HD} {ch : Int → Option (List UInt8)} {S T : AS} {ks : List Int} (h : ComIn n s was now ch S T ks) (hne : ¬ ks.length = 0) {F : List UInt8} (hp : PC n (putsOf (chW was now ch) ks) s.now F) : Pgs n F now T := by
  have lok := h.lok hne
  have hn0 := h.home.n0
  have hout : ∀ k : Nat, chW was now ch k = none → haf (putsOf (chW was now ch) ks) s.now (401 + k) = row s.now (401 + k) := fun k hk => haf_out (fun q hq e => by
    obtain ⟨k', hk', rfl⟩ := List.mem_map.1 hq
    have e : 401 + k' = ((401 + k : Nat) : Int) := e
    obtain rfl : k' = (k : Int) := by omega
    have h1 := (h.mem _).1 hk'
    rw [hk] at h1
    cases h1)
  have hin : ∀ (k : Nat) (l : List UInt8), chW was now ch k = some l → haf (putsOf (chW was now ch) ks) s.now (401 + k) = pad l := fun k l hk => by
    have hk' : (k : Int) ∈ ks := (h.mem _).2 (by rw [hk]; rfl)
    have hq : (401 + (k : Int), (chW was now ch k).getD []) ∈ putsOf (chW was now ch) ks := List.mem_map.2 ⟨k, hk', rfl⟩
    rw [haf_in lok hq (by show 401 + (k : Int) = ((401 + k : Nat) : Int); omega)]
    show pad ((chW was now ch k).getD []) = pad l
    rw [hk, Option.getD_some]
  refine ⟨hp.1, ?_, h.new.congr (fun k hk1 hk2 => ?_)⟩
  · rw [hp.2 401 (Nat.le_refl _) (by omega)]
    by_cases e : now = was
    · have h0 : chW was now ch ((0 : Nat) : Int) = none := by
        rw [chW_same e]
        rcases e2 : ch ((0 : Nat) : Int) with _ | l
        · rfl
        · have := (h.bd _ _ e2).1
          omega
      have h2 := hout 0 h0
      rw [show 401 + 0 = 401 by rfl] at h2
      rw [h2, e]
      exact h.home.head
    · have h2 := hin 0 _ (chW_zero e)
      rw [show 401 + 0 = 401 by rfl] at h2
      rw [h2, pad_pad504 (by rw [hdB_length h.new.used]; omega)]
      exact hdP_hdB (h.new.ok h.home.n1)
  · rw [hp.2 (401 + k) (by omega) hk2]
    unfold pgRead
    rcases e : ch (k : Int) with _ | l
    · rw [hout k (by rw [chW_pos (by omega)]; exact e), Option.getD_none]
    · rw [hin k l (by rw [chW_pos (by omega)]; exact e), Option.getD_some]
      unfold pad
      rw [List.take_left' (h.len _ _ e)]
theorem ComIn.none {n : Nat} {s : DS} {was now : HD} {ch : Int → Option (List UInt8)} {S T : AS} {ks : List Int} (h : ComIn n s was now ch S T ks) (hne : ks.length = 0) : now = was ∧ Pgs n s.now now T := by
  have hk : ks = [] := List.eq_nil_of_length_eq_zero hne
  have hno : ∀ k, chW was now ch k = .none := fun k => by
    rcases e : chW was now ch k with _ | l
    · rfl
    · have h1 := (h.mem k).2 (by rw [e]; rfl)
      rw [hk] at h1
      cases h1
  have hs : now = was := Decidable.byContradiction (p := hdEq now was = true) (fun e => by
    have h1 := hno 0
    rw [chW_zero (fun e2 => e (hdEq_iff.2 e2))] at h1
    cases h1) |> hdEq_iff.1
  refine ⟨hs, h.home.log, by rw [hs]; exact h.home.head, h.new.congr (fun k _ _ => ?_)⟩
  have h1 := hno (k : Int)
  rw [chW_same hs] at h1
  unfold pgRead
  rw [h1]
  rfl

/-- a commit, wherever the power goes -/
theorem ComIn.run {n : Nat} {s : DS} {was now : HD} {ch : Int → Option (List UInt8)} {S T : AS} {ks : List Int} (h : ComIn n s was now ch S T ks) :
    (((comP n s was now (putsOf (chW was now ch) ks)).1 = 0 ∧ (comP n s was now (putsOf (chW was now ch) ks)).2.2 = now ∧ ∃ F, Rest n (comP n s was now (putsOf (chW was now ch) ks)).2.1 F ∧ Pgs n F now T) ∨
     ((comP n s was now (putsOf (chW was now ch) ks)).1 = 13 ∧ (comP n s was now (putsOf (chW was now ch) ks)).2.2 = was ∧ ¬ ks.length = 0 ∧ CrashOk n (comP n s was now (putsOf (chW was now ch) ks)).2.1 (PAny n (putsOf (chW was now ch) ks) s.now))) ∧
    (s.stop < 1 → (comP n s was now (putsOf (chW was now ch) ks)).1 = 0 ∧ (comP n s was now (putsOf (chW was now ch) ks)).2.1.stop = s.stop) ∧ (comP n s was now (putsOf (chW was now ch) ks)).2.1.ops ≤ s.ops + 2010 := by
  by_cases hz : ks.length = 0
  · have e : comP n s was now (putsOf (chW was now ch) ks) = (0, s, was) := if_pos (by rw [putsOf_length]; exact hz)
    rw [e]
    obtain ⟨h1, h2⟩ := h.none hz
    exact ⟨.inl ⟨rfl, h1.symm, _, h.home.rest, h2⟩, fun _ => ⟨rfl, rfl⟩, by show s.ops ≤ s.ops + 2010; omega⟩
  · have lok := h.lok hz
    have hf := h.few
    have e : comP n s was now (putsOf (chW was now ch) ks) = ((cmt n s (putsOf (chW was now ch) ks)).2, (cmt n s (putsOf (chW was now ch) ks)).1, if (cmt n s (putsOf (chW was now ch) ks)).2 = 0 then now else was) :=
      (if_neg (by rw [putsOf_length]; exact hz)).trans (if_neg (by rw [putsOf_length]; omega))
    rw [e]
    have hops := cmt_ops n s (putsOf (chW was now ch) ks) (by rw [putsOf_length]; omega)
    obtain ⟨h1, h2⟩ := com_run lok h.home.rest h.home.log
    refine ⟨?_, fun hs => ⟨(h2 hs).1, (h2 hs).2.1⟩, hops⟩
    rcases h1 with ⟨h1, F, h3, h4⟩ | ⟨h1, h3⟩
    · exact .inl ⟨h1, if_pos h1, F, h3, h.pc hz h4⟩
    · exact .inr ⟨h1, if_neg (by rw [h1]; decide), hz, h3⟩

/-- a commit without a crash -/
theorem PgV.commit {w : World} {p d : Nat} {F : Nat → Prop} {n : Nat} {s : DS} {S T : AS} {N : Nat} (h : PgV w p d F n s S T true N) (hN : N ≤ 399) (ho : s.ops + 3000 ≤ 1000000) (hst : s.stop < 1) :
    Calls Try.prog 24 #[.pointer (some ⟨p, 0, none⟩)] w fun e w' => ∃ s', e = .returned (.int .i64 0) ∧ PgTo w p d F n s' T T false N w' ∧ s'.stop = s.stop ∧ s'.ops ≤ s.ops + 2010 := by
  obtain ⟨was, now, ch, h1, h2, h3, h4, h5⟩ := h
  have hl := h1.len.1
  refine (h1.commit (h3.ok h2.n1) (h4.ok h2.n1) (by omega) (fun k l e => by have := h5 k l e; have := h4.ev1; have := h2.n1; omega) ho).mono ?_
  rintro e w' ⟨ks, F', hlen, hnd, hmem, rfl, hA, hc, hF⟩
  have ci : ComIn n s was now ch S T ks := ⟨h2, h3, h4, h5, hl, hnd, hmem, by omega⟩
  obtain ⟨r1, r2, r3⟩ := ci.run
  obtain ⟨g1, g2⟩ := r2 hst
  rcases r1 with ⟨a1, a2, Fk, a3, a4⟩ | ⟨a1, _⟩
  · rw [a2] at hA
    obtain ⟨hh, ha⟩ := a4.home a3 h2.n0 h2.n1
    exact ⟨_, by rw [g1], ⟨F', 0, ⟨now, now, _, hA, hh, ha, ha, fun k l e => by cases e⟩, Nat.zero_le _, hc, hF⟩, g2, r3⟩
  · rw [g1] at a1
    cases a1
end Go.Proofs.Ytiphekepglihlaa
