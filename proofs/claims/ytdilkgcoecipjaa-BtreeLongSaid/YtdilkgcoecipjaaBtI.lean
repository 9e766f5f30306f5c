/- btree: New; triadlaw5: Open, within, known. -/
import Derived.Test.YtdilkgcoecipjaaBtH
import Derived.Test.YtdilkgcoecipjaaBtV
import Derived.Test.YtdilkgcoecipjaaPagK
namespace Go.Proofs.Ytdilkgcoecipjaa
open Go.RowKit Go.Maps
set_option linter.unusedVariables false

/-- a pager behind m calls -/
def PgM (m : Nat) (w : World) (p d : Nat) (F : Nat → Prop) (s : DS) (S T2 : AS) (N : Nat) (w' : World) : Prop :=
  ∃ F' N', PgV w' p d F' 1600 s S T2 true N' ∧ N' ≤ N + m ∧ Chg F w w' ∧ ∀ k, F' k → F k ∨ w.heap.size ≤ k
theorem PgM.trans {m1 m2 : Nat} {w w1 w2 : World} {p d : Nat} {F : Nat → Prop} {s : DS} {S T1 T2 : AS} {N : Nat} (h : PgM m1 w p d F s S T1 N w1) (k : ∀ F' N', PgV w1 p d F' 1600 s S T1 true N' → N' ≤ N + m1 → (∀ x, F' x → x < w1.heap.size) → PgM m2 w1 p d F' s S T2 N' w2) : PgM (m1 + m2) w p d F s S T2 N w2 := by
  obtain ⟨F1, N1, h1, h2, h3, h4⟩ := h
  obtain ⟨F2, N2, k1, k2, k3, k4⟩ := k F1 N1 h1 h2 h1.lt
  refine ⟨F2, N2, k1, by omega, h3.trans k3 (fun i hi hf => (h4 i hf).elim id (fun h => by omega)), fun x hx => ?_⟩
  rcases k4 x hx with h | h
  · exact h4 x h
  · have := h3.size; exact .inr (by omega)
theorem PgM.mono {m1 m2 : Nat} {w w1 : World} {p d : Nat} {F : Nat → Prop} {s : DS} {S T1 : AS} {N : Nat} (h : PgM m1 w p d F s S T1 N w1) (hm : m1 ≤ m2) : PgM m2 w p d F s S T1 N w1 := by
  obtain ⟨F1, N1, h1, h2, h3, h4⟩ := h
  exact ⟨F1, N1, h1, by omega, h3, h4⟩
theorem PgM.below {m : Nat} {w w1 w2 : World} {p d : Nat} {F : Nat → Prop} {s : DS} {S T1 : AS} {N : Nat} (h : PgM m w p d F s S T1 N w1) (hb : Below w1.heap.size w1 w2) : PgM m w p d F s S T1 N w2 := by
  obtain ⟨F1, N1, h1, h2, h3, h4⟩ := h
  exact ⟨F1, N1, h1.new' hb, h2, h3.trans (Chg.new hb NoFp) (fun _ _ h => h.elim), h4⟩
theorem PgM.step {m : Nat} {w w2 w3 : World} {p d : Nat} {F F2 : Nat → Prop} {s : DS} {S T2 : AS} {N N2 : Nat} (h2 : N2 ≤ N + m) (hc2 : Chg F w w2) (hF2 : ∀ k, F2 k → F k ∨ w.heap.size ≤ k) (h3 : PgTo w2 p d F2 1600 s S T2 true N2 w3) : PgM (m + 1) w p d F s S T2 N w3 := by
  obtain ⟨F3, N3, k1, k2, k3, k4⟩ := h3
  have := hc2.size
  refine ⟨F3, N3, k1, by omega, hc2.trans k3 (fun i hi hf => (hF2 i hf).elim id (fun h => by omega)), fun x hx => ?_⟩
  rcases k4 x hx with h | h
  · exact hF2 x h
  · exact .inr (by omega)
abbrev nd0 : Nd := ⟨true, [], [], []⟩

set_option maxRecDepth 100000 in
set_option maxHeartbeats 2000000 in
theorem bnew_any (w : World) (p d : Nat) (F : Nat → Prop) (s : DS) (S T : AS) (N : Nat) (Nf : Nat → Option Nd) (U M : Nat) (hpg : PgV w p d F 1600 s S T true N) (hN : N ≤ 999990) (hst : Sto T Nf U M none) (hM : M ≤ 1190) (hU : U + 1 ≤ M) :
    Calls Try.prog 9 #[.pointer (some ⟨p, 0, none⟩)] w fun e w' => ∃ (k : Nat) (T2 : AS), e = .returned (.tuple #[.int .i64 (k : Int), .int .i64 0]) ∧ PgM 2 w p d F s S T2 N w' ∧ Sto T2 (updN Nf k (some nd0)) (U + 1) M none ∧ Nf k = none ∧ k < 65536 ∧ T2.root = T.root := by
  obtain ⟨k, T1, hnew, hk, hk6, hs1, hB1, hr1⟩ := hst.new hM hU
  obtain ⟨T2, hput, hs2, hr2, _⟩ := hs1.put (.inr rfl) hB1 nd0 (by unfold OkN; rw [if_pos rfl]; exact ⟨rfl, rfl, fun e h => (by cases h)⟩) (by decide) hk6
  have HPG := hid hpg
  have HFIN := hid (And.intro hs2 (And.intro hk (And.intro hk6 (hr2.trans hr1))))
  have HNEW := hid hnew
  have HPUT := hid hput
  clear hpg hst hnew hput hs1 hB1 hs2 hk hr1 hr2
  go_enter Try.func9, Try.ntmps9
  go_wp2_with fail
  refine (HPG.out.new (by omega)).mono ?_
  rw [HNEW.out]
  rintro e1 w1 ⟨rfl, hp1⟩
  have hp1 : PgM 1 w p d F s S T1 N w1 := hp1
  have HP1 := hid hp1
  clear hp1
  go_wp2_with fail
  refine (bytes_any w1 nd0 true none 0 0 none 0 0 none 0 0 ⟨rfl, Rd.nil _ _, Rd.nil _ _, Rd.nil _ _⟩ rfl rfl rfl (fun _ => rfl) (by decide)).mono ?_
  rintro e2 w2 ⟨pb, cb, rfl, hob, hb2⟩
  have HP2 := hid (HP1.out.below hb2)
  have HOB := hid (Rd.of_own hob)
  clear hob hb2
  go_wp2_with fail
  obtain ⟨F2, N2, hv2, hN2, hc2, hF2⟩ := HP2.out
  refine (hv2.put (k : Int) _ (enc nd0) HOB.out (by decide) (by omega)).mono ?_
  rw [HPUT.out]
  rintro e3 w3 ⟨rfl, hp3⟩
  have HP3 := hid (PgM.step hN2 hc2 hF2 hp3)
  clear hv2 hN2 hc2 hF2 hp3
  go_wp2_with fail
  go_ret2
  exact ⟨k, T2, rfl, HP3.out, HFIN.out⟩

/-- how many pages are free -/
theorem frees_used (A : AS) (ps : List Nat) (m : Nat) (hn : ps.Nodup) (hu : ∀ k ∈ ps, 1 ≤ k) (h : ∀ k : Nat, 1 ≤ k → ((A.B (k : Int)).isSome = true ↔ k ∈ ps)) : frees A m + (ps.filter (fun k => decide (k ≤ m))).length = m := by
  induction m with
  | zero =>
    have : ps.filter (fun k => decide (k ≤ 0)) = [] := List.filter_eq_nil_iff.2 (fun k hk => by have := hu k hk; simp; omega)
    rw [this]; rfl
  | succ m ih =>
    rw [frees]
    have hsplit : ∀ l : List Nat, l.Nodup → (l.filter (fun k => decide (k ≤ m + 1))).length = (l.filter (fun k => decide (k ≤ m))).length + (if (m + 1) ∈ l then 1 else 0) := by
      intro l
      induction l with
      | nil => intro _; rfl
      | cons a l ih2 =>
        intro hl
        have h2 := List.nodup_cons.1 hl
        have h3 := ih2 h2.2
        by_cases e : a = m + 1
        · subst e
          rw [List.filter_cons_of_pos (by simp), List.filter_cons_of_neg (by simp), if_pos (List.mem_cons_self ..), List.length_cons]
          rw [if_neg h2.1] at h3
          omega
        · have e2 : ¬ m + 1 = a := fun h => e h.symm
          by_cases e3 : a ≤ m
          · rw [List.filter_cons_of_pos (by simp; omega), List.filter_cons_of_pos (by simpa using e3), List.length_cons, List.length_cons, h3]
            simp only [List.mem_cons, e2, false_or]
            omega
          · rw [List.filter_cons_of_neg (by simp; omega), List.filter_cons_of_neg (by simpa using e3), h3]
            simp only [List.mem_cons, e2, false_or]
    rw [hsplit ps hn]
    have hm := h (m + 1) (by omega)
    by_cases e : (m + 1) ∈ ps
    · rw [if_pos (hm.2 e), if_pos e]; omega
    · rw [if_neg (fun h2 => e (hm.1 h2)), if_neg e]; omega
theorem Sto.frees {T : AS} {Nf : Nat → Option Nd} {U M : Nat} {ps : List Nat} (h : Sto T Nf U M none) (hM : M ≤ 1190) (hn : ps.Nodup) (hps : ∀ k, (Nf k).isSome = true ↔ k ∈ ps) : frees T 1198 = 1198 - ps.length ∧ ps.length ≤ 1198 := by
  have hiff : ∀ k : Nat, (T.B (k : Int)).isSome = true ↔ k ∈ ps := by
    intro k
    rw [← hps k]
    constructor
    · intro hk
      obtain ⟨j, hj, hj2⟩ := h.used _ hk
      have : k = j := by omega
      subst this
      rcases hj2 with h2 | h2
      · exact h2
      · cases h2
    · intro hk
      obtain ⟨nd, hnd⟩ := Option.isSome_iff_exists.1 hk
      rw [(h.vw k nd hnd).1]; rfl
  have hbd : ∀ k ∈ ps, 1 ≤ k ∧ k ≤ 1198 := by
    intro k hk
    obtain ⟨l, hl⟩ := Option.isSome_iff_exists.1 ((hiff k).2 hk)
    have h1 := h.bd _ _ hl
    have h2 := h.lim
    omega
  have h1 := frees_used T ps 1198 hn (fun k hk => (hbd k hk).1) (fun k _ => hiff k)
  rw [List.filter_eq_self.2 (fun k hk => by simpa using (hbd k hk).2)] at h1
  omega

theorem within5_any (w : World) (a n : Int) (hn : 0 < n) (hn2 : n ≤ 1000000) :
    Calls Try.prog 7 #[.int .i64 a, .int .i64 n] w fun e w' => e = .returned (.int .i64 (a % n)) ∧ w' = w := by
  have h1 := hid (tmod_up a n hn)
  have h2 := tmod_bd a n hn
  have hz : (n == 0) = false := by rw [beq_eq_false_iff_ne]; omega
  have hw1 : IntKind.i64.wrap (a.tmod n) = a.tmod n := i64_small (by omega) (by omega)
  have hw2 : IntKind.i64.wrap (a.tmod n + n) = a.tmod n + n := i64_small (by omega) (by omega)
  by_cases hlt : a.tmod n < 0
  · go_enter Try.func7, Try.ntmps7
    go_wp2_with fail
    go_ret
    have h3 := h1.out
    rw [if_pos hlt] at h3
    exact ⟨by first | (rw [h3]; done) | (rw [← h3]; rfl) | rfl, rfl⟩
  · go_enter Try.func7, Try.ntmps7
    go_wp2_with fail
    go_ret
    have h3 := h1.out
    rw [if_neg (by omega)] at h3
    exact ⟨by first | (rw [h3]; done) | (rw [← h3]; rfl) | rfl, rfl⟩

/-- a pager on a new disk, with a transaction -/
theorem open5_any' (w : World) :
    Calls Try.prog 8 #[] w fun e w' => ∃ p d F N, e = .returned (.pointer (some ⟨p, 0, none⟩)) ∧ PgV w' p d F 1600 (dNew 1600) as0 as0 true N ∧ N ≤ 1 ∧ Below w.heap.size w w' ∧ ∀ k, F k → w.heap.size ≤ k := by
  go_enter Try.func8, Try.ntmps8
  go_wp2_with fail
  refine (dNew_any w 1600).mono ?_
  rintro e1 w1 ⟨d, rfl, hd1, hb1, hd⟩
  rw [show clampN 1600 = 1600 from rfl] at hd1
  have D1 := hid hd1
  have B1 := hid hb1
  clear hd1 hb1
  go_wp2_with fail
  refine (openNew w1 1600 (by omega) (by omega) d _ D1.out).mono ?_
  rintro e2 w2 ⟨p, F, rfl, hv, hc, hp, hF⟩
  have V2 := hid hv
  have HF : Hid (∀ k, F k → w.heap.size ≤ k) := hid (fun k hk => (hF k hk).elim (fun h => h.1) (fun h => Nat.le_trans B1.out.size h))
  have B2 := hid (B1.out.trans (hc.below (fun k hk => hk.1) B1.out.size))
  clear hv hc hF
  go_wp2_with fail
  refine V2.out.begin.mono ?_
  rintro e3 w3 ⟨rfl, F3, N3, hv, hN3, hc, hF⟩
  have V3 := hid hv
  have HN3 := hid hN3
  have HF3 : Hid (∀ k, F3 k → w.heap.size ≤ k) := hid (fun k hk => (hF k hk).elim (HF.out k) (fun h => Nat.le_trans B2.out.size h))
  have B3 := hid (B2.out.trans (hc.below (fun k hk => HF.out k hk) B2.out.size))
  clear hv hc hF
  go_wp2_with fail
  go_ret
  exact ⟨p, d, F3, N3, rfl, V3.out, HN3.out, B3.out, HF3.out⟩

/-- the empty tree -/
abbrev tr0 (k : Nat) : Tr 0 := (k, [])
theorem tr0_ok (k : Nat) (Nf : Nat → Option Nd) (h : Nf k = some nd0) : TrOk 0 (tr0 k) Nf :=
  ⟨h, List.Pairwise.nil, .inl rfl, by show ([k] : List Nat).Nodup; simp, by show (ents ([] : List Tok)).length ≤ 1000; decide⟩
/-- a tree that has all pages that are in use -/
structure Whole (d : Nat) (t : Tr d) (T : AS) (Nf : Nat → Option Nd) (M : Nat) : Prop where
  ok : TrOk d t Nf
  sto : Sto T Nf (pgs d t).length M none
  all : ∀ k, (Nf k).isSome = true ↔ k ∈ pgs d t
theorem whole_new {T1 T2 : AS} {k U M : Nat} (hs : Sto T2 (updN (fun _ => none) k (some nd0)) (0 + 1) M none) : Whole 0 (tr0 k) T2 (updN (fun _ => none) k (some nd0)) M :=
  ⟨tr0_ok k _ (updN_same ..), hs, fun j => by
    show _ ↔ j ∈ [k]
    unfold updN
    by_cases e : j = k
    · simp [e]
    · simp [e]⟩

set_option maxRecDepth 100000 in
set_option maxHeartbeats 2000000 in
theorem known5_any (w : World) : Calls Try.prog 6 #[] w fun e w' => e = .returned (.bool true) ∧ Below w.heap.size w w' := by
  go_enter Try.func6, Try.ntmps6
  go_wp2_with fail
  refine (open5_any' w).mono ?_
  rintro e1 w1 ⟨p, d, F, N, rfl, hv, hN, hb, hF⟩
  have V1 := hid hv
  have B1 := hid hb
  have HF := hid hF
  clear hv hb hF
  have hfr0 : frees as0 1198 = 1198 := by
    have := frees_used as0 [] 1198 List.nodup_nil (fun k h => by cases h) (fun k _ => by simp [as0])
    simpa using this
  have HFR0 := hid hfr0
  clear hfr0
  go_wp2_with fail
  refine V1.out.free.mono ?_
  rw [show 1600 - 402 = 1198 from rfl, HFR0.out]
  rintro e2 wx ⟨rfl, hw⟩
  subst hw
  go_wp2_with fail
  refine (bnew_any _ p d F _ _ _ N _ 0 1190 V1.out (by omega) (sto_zero 1190) (by omega) (by omega)).mono ?_
  rintro e3 w3 ⟨k, T2, rfl, hp3, hs3, _, hk6, _⟩
  have HWH := hid (whole_new (T1 := as0) (U := 0) hs3)
  obtain ⟨F3, N3, hv3, hN3, hc3, hF3⟩ := hp3
  have V3 := hid hv3
  have B3 := hid (B1.out.trans (hc3.below (fun k hk => HF.out k hk) B1.out.size))
  clear hs3 hv3 hN3 hc3 hF3
  go_wp2_with fail
  refine (count_any' w3 p d F3 1600 _ _ T2 true N3 _ 0 (tr0 k) HWH.out.sto.vw V3.out HWH.out.ok).mono ?_
  rintro e4 w4 ⟨rfl, hb4⟩
  have V4 := hid (V3.out.new' hb4)
  have B4 := hid (B3.out.trans (hb4.mono B3.out.size))
  clear hb4
  have hfr := (HWH.out.sto.frees (by omega) HWH.out.ok.nodup HWH.out.all).1
  rw [show (pgs 0 (tr0 k)).length = 1 from rfl] at hfr
  have HFR := hid hfr
  clear hfr
  rw [show ((ents (toks 0 (tr0 k))).length : Int) = 0 from rfl]
  go_wp2_with fail
  refine V4.out.free.mono ?_
  rw [show 1600 - 402 = 1198 from rfl, HFR.out]
  rintro e5 wx ⟨rfl, hw⟩
  subst hw
  go_wp2_with fail
  go_ret
  exact ⟨rfl, B4.out⟩
end Go.Proofs.Ytdilkgcoecipjaa
