/- package pager: a pager, by what it has: all calls but Commit. -/
import Derived.Test.YtdilkgcoecipjaaPagS
namespace Go.Proofs.Ytdilkgcoecipjaa
open Go.RowKit Go.Maps
set_option linter.unusedVariables false

/-- a disk at rest without a log, and what its page 0 says -/
structure Home (n : Nat) (s : DS) (was : HD) : Prop where
  n0 : 403 ≤ n
  n1 : n ≤ 3000
  rest : Rest n s s.now
  log : row s.now 0 = z512
  head : hdP (row s.now 401) = was
/-- a pager, over the blocks F: what was committed, and what is seen -/
def PgV (w : World) (p d : Nat) (F : Nat → Prop) (n : Nat) (s : DS) (S T : AS) (op : Bool) (N : Nat) : Prop :=
  ∃ was now ch, PgA w p d F n s was now op ch N ∧ Home n s was ∧ Abs n was (pgRead s fun _ => none) S ∧ Abs n now (pgRead s ch) T ∧ ∀ k l, ch k = some l → 1 ≤ k ∧ k ≤ T.ever
def PgTo (w : World) (p d : Nat) (F : Nat → Prop) (n : Nat) (s : DS) (S T : AS) (op : Bool) (N : Nat) (w' : World) : Prop :=
  ∃ F' N', PgV w' p d F' n s S T op N' ∧ N' ≤ N + 1 ∧ Chg F w w' ∧ ∀ k, F' k → F k ∨ w.heap.size ≤ k

def newO (n : Nat) (op : Bool) (A : AS) : Int × Int × AS := if op = false then (0, 12, A) else newA n A
def dropO (op : Bool) (A : AS) (k : Int) : Int × AS := if op = false then (12, A) else dropA A k
def putO (op : Bool) (A : AS) (k : Int) (l : List UInt8) : Int × AS := if op = false then (12, A) else putA A k l
def rootO (op : Bool) (A : AS) (k : Int) : Int × AS := if op = false then (12, A) else rootA A k
def getA (A : AS) (k : Int) : List UInt8 × Int := match A.B k with
  | some l => (l, 0)
  | none => ([], 1)

theorem PgA.len {w : World} {p d : Nat} {F : Nat → Prop} {n : Nat} {s : DS} {was now : HD} {op : Bool} {ch : Int → Option (List UInt8)} {N : Nat} (h : PgA w p d F n s was now op ch N) : (∀ k l, ch k = some l → l.length = 504) ∧ ∀ k : Nat, 401 + k < n → (pgRead s ch k).length = 504 := by
  obtain ⟨fp, ok, b, D, h1, h2, h3, h4, h5, h6, h7⟩ := h
  have hch : ∀ k l, ch k = some l → l.length = 504 := fun k l e => by
    have h := h3 k
    rw [e] at h
    obtain ⟨_, g, _, _, h, _⟩ := h
    exact h
  refine ⟨hch, fun k hk => ?_⟩
  unfold pgRead
  rcases e : ch k with _ | l
  · rw [Option.getD_none, List.length_take, row_length h1.dsk.ok.now hk]; rfl
  · rw [Option.getD_some]; exact hch _ _ e
theorem PgV.lt {w : World} {p d : Nat} {F : Nat → Prop} {n : Nat} {s : DS} {S T : AS} {op : Bool} {N : Nat} (h : PgV w p d F n s S T op N) : ∀ k, F k → k < w.heap.size := by
  obtain ⟨was, now, ch, h1, _⟩ := h
  exact h1.lt
theorem PgV.chg {w w' : World} {p d : Nat} {F fq : Nat → Prop} {n : Nat} {s : DS} {S T : AS} {op : Bool} {N : Nat} (h : PgV w p d F n s S T op N) (hc : Chg fq w w') (hn : ∀ k, F k → ¬ fq k) : PgV w' p d F n s S T op N := by
  obtain ⟨was, now, ch, h1, h2⟩ := h
  exact ⟨was, now, ch, h1.chg hc hn, h2⟩
theorem PgV.new' {w w' : World} {p d : Nat} {F : Nat → Prop} {n : Nat} {s : DS} {S T : AS} {op : Bool} {N : Nat} (h : PgV w p d F n s S T op N) (hb : Below w.heap.size w w') : PgV w' p d F n s S T op N :=
  h.chg (Chg.new hb (fun _ => False)) (fun _ _ h => h)

theorem PgV.begin {w : World} {p d : Nat} {F : Nat → Prop} {n : Nat} {s : DS} {S T : AS} {op : Bool} {N : Nat} (h : PgV w p d F n s S T op N) :
    Calls Try.prog 23 #[.pointer (some ⟨p, 0, none⟩)] w fun e w' => e = .returned (.int .i64 (if op then 12 else 0)) ∧ PgTo w p d F n s S T true N w' := by
  obtain ⟨was, now, ch, h1, h2⟩ := h
  refine (beginA h1).mono ?_
  rintro e w' ⟨rfl, hc, h3⟩
  exact ⟨rfl, F, N, ⟨was, now, ch, h3, h2⟩, Nat.le_succ _, hc, fun k h => .inl h⟩

theorem newA_ever {n : Nat} {A : AS} (hg : ∀ g ∈ A.gone, 1 ≤ g ∧ g ≤ A.ever) (h0 : 0 ≤ A.ever) : A.ever ≤ (newA n A).2.2.ever ∧ ((newA n A).2.1 = 0 → 1 ≤ (newA n A).1 ∧ (newA n A).1 ≤ (newA n A).2.2.ever) := by
  unfold newA
  rcases e : A.gone with _ | ⟨g, gs⟩
  · simp only
    split
    · refine ⟨?_, fun _ => ⟨?_, ?_⟩⟩ <;> simp only [AS.set] <;> omega
    · exact ⟨Int.le_refl _, fun h => by simp at h⟩
  · have := hg g (by rw [e]; exact List.mem_cons_self ..)
    exact ⟨Int.le_refl _, fun _ => this⟩

theorem PgV.new {w : World} {p d : Nat} {F : Nat → Prop} {n : Nat} {s : DS} {S T : AS} {op : Bool} {N : Nat} (h : PgV w p d F n s S T op N) (hN : N ≤ 1000000) :
    Calls Try.prog 24 #[.pointer (some ⟨p, 0, none⟩)] w fun e w' => e = .returned (.tuple #[.int .i64 (newO n op T).1, .int .i64 (newO n op T).2.1]) ∧ PgTo w p d F n s S (newO n op T).2.2 op N w' := by
  obtain ⟨was, now, ch, h1, h2, h3, h4, h5⟩ := h
  refine (h1.new h2.n0 h2.n1 h2.rest.alive h1.len.2 hN).mono ?_
  rintro e w' ⟨rfl, hc, F', N', h6, hN', hF'⟩
  cases op with
  | false =>
    rw [show newO n false T = (0, 12, T) from if_pos rfl]
    rw [show newP n s false now ch = (0, 12, now, ch) from if_pos rfl] at h6 ⊢
    exact ⟨rfl, F', N', ⟨was, now, ch, h6, h2, h3, h4, h5⟩, hN', hc, hF'⟩
  | true =>
    rw [show newO n true T = newA n T from if_neg (by simp)]
    obtain ⟨e1, e2, h7⟩ := h4.new h2.n1
    have hev := newA_ever (n := n) (fun g hg => ⟨(h4.gbd g hg).1, (h4.gbd g hg).2.1⟩) h4.ev0
    refine ⟨by rw [e1, e2], F', N', ⟨was, _, _, h6, h2, h3, h7, fun k l hk => ?_⟩, hN', hc, hF'⟩
    have hnew : newP n s true now ch = if (freshP n s now ch).2.1 = 0 then ((freshP n s now ch).1, 0, turnH (freshP n s now ch).2.2 (freshP n s now ch).1.toNat true, chP ch (freshP n s now ch).1 []) else (0, (freshP n s now ch).2.1, (freshP n s now ch).2.2, ch) := if_neg (by simp)
    by_cases h0 : (freshP n s now ch).2.1 = 0
    · rw [if_pos h0] at hnew
      rw [hnew] at hk e1 e2
      simp only [chP] at hk e1 e2
      by_cases e : k = (freshP n s now ch).1
      · rw [e, e1]
        exact hev.2 e2.symm
      · rw [if_neg e] at hk
        have := h5 k l hk
        omega
    · rw [if_neg h0] at hnew
      rw [hnew] at hk
      have := h5 k l hk
      omega

theorem PgV.drop {w : World} {p d : Nat} {F : Nat → Prop} {n : Nat} {s : DS} {S T : AS} {op : Bool} {N : Nat} (h : PgV w p d F n s S T op N) (at_ : Int) (hN : N ≤ 1000000) :
    Calls Try.prog 49 #[.pointer (some ⟨p, 0, none⟩), .int .i64 at_] w fun e w' => e = .returned (.int .i64 (dropO op T at_).1) ∧ PgTo w p d F n s S (dropO op T at_).2 op N w' := by
  obtain ⟨was, now, ch, h1, h2, h3, h4, h5⟩ := h
  refine (h1.drop at_ hN).mono ?_
  rintro e w' ⟨rfl, hc, F', N', h6, hN', hF'⟩
  cases op with
  | false =>
    rw [show dropO false T at_ = (12, T) from if_pos rfl]
    rw [show dropP n false now ch at_ = (12, now, ch) from if_pos rfl] at h6 ⊢
    exact ⟨rfl, F', N', ⟨was, now, ch, h6, h2, h3, h4, h5⟩, hN', hc, hF'⟩
  | true =>
    rw [show dropO true T at_ = dropA T at_ from if_neg (by simp)]
    obtain ⟨e1, h7⟩ := h4.drop h2.n1 at_
    refine ⟨by rw [e1], F', N', ⟨was, _, _, h6, h2, h3, h7, fun k l hk => ?_⟩, hN', hc, hF'⟩
    have hev : (dropA T at_).2.ever = T.ever := by unfold dropA; split <;> rfl
    rw [hev]
    have hd : dropP n true now ch at_ = if thereP n now at_ = false then (1, now, ch) else (0, { turnH now at_.toNat false with free := at_ }, chP ch at_ (le8 now.free)) := if_neg (by simp)
    by_cases h0 : thereP n now at_ = false
    · rw [hd, if_pos h0] at hk
      exact h5 k l hk
    · rw [hd, if_neg h0] at hk
      simp only [chP] at hk
      by_cases e : k = at_
      · rw [h4.there] at h0
        obtain ⟨l0, hl0⟩ := Option.isSome_iff_exists.1 (Bool.not_eq_false _ ▸ h0 : (T.B at_).isSome = true)
        rw [e]
        exact h4.bd _ _ hl0
      · rw [if_neg e] at hk
        exact h5 k l hk

theorem PgV.put {w : World} {p d : Nat} {F : Nat → Prop} {n : Nat} {s : DS} {S T : AS} {op : Bool} {N : Nat} (h : PgV w p d F n s S T op N) (at_ : Int) (v : Value) (l : List UInt8) (hv : Bs w v l) (hl : l.length ≤ 1000000) (hN : N ≤ 1000000) :
    Calls Try.prog 25 #[.pointer (some ⟨p, 0, none⟩), .int .i64 at_, v] w fun e w' => e = .returned (.int .i64 (putO op T at_ l).1) ∧ PgTo w p d F n s S (putO op T at_ l).2 op N w' := by
  obtain ⟨was, now, ch, h1, h2, h3, h4, h5⟩ := h
  refine (h1.put at_ v l hv hl hN).mono ?_
  rintro e w' ⟨rfl, hc, F', N', h6, hN', hF'⟩
  cases op with
  | false =>
    rw [show putO false T at_ l = (12, T) from if_pos rfl]
    rw [show putP n false now ch at_ l = (12, ch) from if_pos rfl] at h6 ⊢
    exact ⟨rfl, F', N', ⟨was, now, ch, h6, h2, h3, h4, h5⟩, hN', hc, hF'⟩
  | true =>
    rw [show putO true T at_ l = putA T at_ l from if_neg (by simp)]
    obtain ⟨e1, h7⟩ := h4.put at_ l
    refine ⟨by rw [e1], F', N', ⟨was, _, _, h6, h2, h3, h7, fun k l' hk => ?_⟩, hN', hc, hF'⟩
    have hev : (putA T at_ l).2.ever = T.ever := by unfold putA; split <;> (try split) <;> rfl
    rw [hev]
    have hd : putP n true now ch at_ l = if thereP n now at_ = false then (1, ch) else if 504 < l.length then (5, ch) else (0, chP ch at_ l) := if_neg (by simp)
    by_cases h0 : thereP n now at_ = false
    · rw [hd, if_pos h0] at hk
      exact h5 k l' hk
    · rw [hd, if_neg h0] at hk
      by_cases h8 : 504 < l.length
      · rw [if_pos h8] at hk
        exact h5 k l' hk
      · rw [if_neg h8] at hk
        simp only [chP] at hk
        by_cases e : k = at_
        · rw [h4.there] at h0
          obtain ⟨l0, hl0⟩ := Option.isSome_iff_exists.1 (Bool.not_eq_false _ ▸ h0 : (T.B at_).isSome = true)
          rw [e]
          exact h4.bd _ _ hl0
        · rw [if_neg e] at hk
          exact h5 k l' hk

theorem PgV.setRoot {w : World} {p d : Nat} {F : Nat → Prop} {n : Nat} {s : DS} {S T : AS} {op : Bool} {N : Nat} (h : PgV w p d F n s S T op N) (at_ : Int) (hat : at_ ≤ 9223372036854775807) :
    Calls Try.prog 44 #[.pointer (some ⟨p, 0, none⟩), .int .i64 at_] w fun e w' => e = .returned (.int .i64 (rootO op T at_).1) ∧ PgTo w p d F n s S (rootO op T at_).2 op N w' := by
  obtain ⟨was, now, ch, h1, h2, h3, h4, h5⟩ := h
  refine (h1.setRoot at_).mono ?_
  rintro e w' ⟨rfl, hc, h6⟩
  cases op with
  | false =>
    rw [show rootO false T at_ = (12, T) from if_pos rfl]
    rw [if_pos rfl] at h6 ⊢
    exact ⟨rfl, F, N, ⟨was, now, ch, h6, h2, h3, h4, h5⟩, Nat.le_succ _, hc, fun k h => .inl h⟩
  | true =>
    rw [show rootO true T at_ = rootA T at_ from if_neg (by simp)]
    rw [if_neg (by simp)] at h6 ⊢
    obtain ⟨e1, h7⟩ := h4.setRoot at_ hat
    refine ⟨by rw [e1], F, N, ⟨was, _, _, h6, h2, h3, h7, fun k l hk => ?_⟩, Nat.le_succ _, hc, fun k h => .inl h⟩
    have hev : (rootA T at_).2.ever = T.ever := by unfold rootA; split <;> rfl
    rw [hev]
    exact h5 k l hk

theorem PgV.get {w : World} {p d : Nat} {F : Nat → Prop} {n : Nat} {s : DS} {S T : AS} {op : Bool} {N : Nat} (h : PgV w p d F n s S T op N) (at_ : Int) :
    Calls Try.prog 62 #[.pointer (some ⟨p, 0, none⟩), .int .i64 at_] w fun e w' => ∃ q m c, e = .returned (.tuple #[.slice q m c, .int .i64 (getA T at_).2]) ∧ m = (getA T at_).1.length ∧
      Bs w' (.slice q m c) (getA T at_).1 ∧ Below w.heap.size w w' ∧ ∀ g, Value.ownBlock (.slice q m c) = some g → w.heap.size ≤ g := by
  obtain ⟨was, now, ch, h1, h2, h3, h4, h5⟩ := h
  refine (h1.get h2.rest.alive at_).mono ?_
  rintro e w' ⟨q, m, c, rfl, hm, hb, hbe, hgg⟩
  unfold getA
  have ht := h4.there at_
  rcases e : T.B at_ with _ | l
  · rw [e] at ht
    have ht' : thereP n now at_ = false := ht
    rw [ht'] at hm hb ⊢
    exact ⟨q, m, c, rfl, hm, hb, hbe, hgg⟩
  · rw [e] at ht
    have ht' : thereP n now at_ = true := ht
    rw [ht'] at hm hb ⊢
    rw [if_pos rfl, (h4.page _ _ e).1] at hm hb
    exact ⟨q, m, c, rfl, hm, hb, hbe, hgg⟩

theorem PgV.root {w : World} {p d : Nat} {F : Nat → Prop} {n : Nat} {s : DS} {S T : AS} {op : Bool} {N : Nat} (h : PgV w p d F n s S T op N) :
    Calls Try.prog 45 #[.pointer (some ⟨p, 0, none⟩)] w fun e w' => e = .returned (.int .i64 T.root) ∧ w' = w := by
  obtain ⟨was, now, ch, h1, h2, h3, h4, h5⟩ := h
  rw [← h4.root]
  exact h1.root

theorem PgV.open {w : World} {d : Nat} {fp : Nat → Prop} {n : Nat} {s : DS} {was : HD} {S : AS} (h : Dsk w d fp n s) (hh : Home n s was) (hS : Abs n was (pgRead s fun _ => none) S) (ho : s.ops + 3000 ≤ 1000000) :
    Calls Try.prog 21 #[.pointer (some ⟨d, 0, none⟩)] w fun e w' => ∃ p F, e = .returned (.tuple #[.pointer (some ⟨p, 0, none⟩), .int .i64 0]) ∧ PgV w' p d F n s S S false 0 ∧ Chg fp w w' ∧ w.heap.size ≤ p ∧ ∀ k, F k → fp k ∨ w.heap.size ≤ k := by
  have hr := recov_rest hh.rest hh.log
  refine (openA w d fp n s h hh.n0 ho (by rw [hr]) (by rw [hr]; exact hh.rest.alive)).mono ?_
  rw [hr]
  rintro e w' ⟨p, F, rfl, h1, hc, hp, hF⟩
  rw [show hdP (row (s, (0 : Int), (0 : Int)).1.now 401) = was from hh.head] at h1
  exact ⟨p, F, rfl, ⟨was, was, _, h1, hh, hS, hS, fun k l h => by cases h⟩, hc, hp, hF⟩

theorem hdP_zero : hdP z512 = hd0 := by kernel_rfl
theorem home_new {n : Nat} (h0 : 403 ≤ n) (h1 : n ≤ 3000) : Home n (dNew n) hd0 :=
  ⟨h0, h1, rest_new n, row_zero (by omega), by rw [show row (dNew n).now 401 = z512 from row_zero (by omega)]; exact hdP_zero⟩

/-- of the first j pages, how many are free -/
def frees (A : AS) : Nat → Nat
  | 0 => 0
  | j + 1 => frees A j + if (A.B ((j + 1 : Nat) : Int)).isSome then 0 else 1
theorem frees_le (A : AS) : ∀ j, frees A j ≤ j
  | 0 => Nat.le_refl _
  | j + 1 => by
    have := frees_le A j
    unfold frees
    split <;> omega

set_option maxRecDepth 100000 in
theorem PgV.free {w : World} {p d : Nat} {F : Nat → Prop} {n : Nat} {s : DS} {S T : AS} {op : Bool} {N : Nat} (h : PgV w p d F n s S T op N) :
    Calls Try.prog 16 #[.pointer (some ⟨p, 0, none⟩)] w fun e w' => e = .returned (.int .i64 (frees T (n - 402))) ∧ w' = w := by
  obtain ⟨was, now, ch, h1, h2, h3, h4, h5⟩ := h
  have HT := hid (fun k => h1.there k)
  have HP := hid h1.pages
  have HA := hid (fun k => h4.there k)
  have hn0 := h2.n0
  have hn1 := h2.n1
  clear h1 h2 h3 h4 h5
  go_enter Try.func16, Try.ntmps16
  go_wp2_with fail
  refine wp_scope_goto 0 (fun m a wr => ∃ (j : Nat) (x y : Int) (u5 u6 u7 u8 u9 u10 u11 u12 u13 u14 u15 u16 : Value), m = n - j ∧ j ≤ n - 402 ∧ x = (frees T j : Int) ∧ y = (j : Int) + 1 ∧ wr = w ∧
     a = ⟨#[.pointer (some ⟨p, 0, none⟩), undef, .int .i64 0, .int .i64 x, .int .i64 y, u5, u6, u7, u8, u9, u10, u11, u12, u13, u14, u15, u16, undef], []⟩) rfl ?pass ?first
  case first =>
    intro K hK
    go_wp2_with fail
    go_step3
    simp only [Exit.then]
    rename_i hK'
    refine hK' _ _ (hK n _ _ ⟨0, 0, 1, _, _, _, _, _, _, _, _, _, _, _, _, rfl, Nat.zero_le _, rfl, rfl, rfl, rfl⟩)
  case pass =>
    rintro m a wr ⟨j, x, y, u5, u6, u7, u8, u9, u10, u11, u12, u13, u14, u15, u16, rfl, hj, rfl, rfl, rfl, rfl⟩ K hK
    have HK := hid hK
    clear hK
    have hwj : IntKind.i64.wrap ((j : Int) + 1 + 1) = (j : Int) + 1 + 1 := by simp [IntKind.wrap, IntKind.bits, IntKind.signed]; omega
    by_cases hlt : (j : Int) + 1 < (n : Int) - 401
    · have hfl := frees_le T j
      have hwf : IntKind.i64.wrap ((frees T j : Int) + 1) = (frees T j : Int) + 1 := by simp [IntKind.wrap, IntKind.bits, IntKind.signed]; omega
      cases ht : thereP n now ((j : Int) + 1)
      · have T1 := hid ht
        clear ht
        go_wp2_with fail
        refine HP.out.mono ?_; rintro e1 wx ⟨rfl, hw⟩
        subst hw
        go_wp2_with fail
        refine (HT.out _).mono ?_; rintro e1 wx ⟨rfl, hw⟩
        subst hw
        rw [T1.out]
        go_wp2_with fail
        go_step3
        simp only [Exit.then, Exit.jump, true_and]
        have hfr : frees T (j + 1) = frees T j + 1 := by
          have h1 := HA.out ((j : Int) + 1)
          rw [T1.out] at h1
          show frees T j + (if (T.B ((j + 1 : Nat) : Int)).isSome then 0 else 1) = _
          rw [show ((j + 1 : Nat) : Int) = (j : Int) + 1 by push_cast; rfl, ← h1]
          rfl
        refine HK.out (n - (j + 1)) _ _ (by omega) ⟨j + 1, _, _, _, _, _, _, _, _, _, _, _, _, _, _, rfl, by omega, by simp [hfr], rfl, rfl, rfl⟩
      · have T1 := hid ht
        clear ht
        go_wp2_with fail
        refine HP.out.mono ?_; rintro e1 wx ⟨rfl, hw⟩
        subst hw
        go_wp2_with fail
        refine (HT.out _).mono ?_; rintro e1 wx ⟨rfl, hw⟩
        subst hw
        rw [T1.out]
        go_wp2_with fail
        go_step3
        simp only [Exit.then, Exit.jump, true_and]
        have hfr : frees T (j + 1) = frees T j := by
          have h1 := HA.out ((j : Int) + 1)
          rw [T1.out] at h1
          show frees T j + (if (T.B ((j + 1 : Nat) : Int)).isSome then 0 else 1) = _
          rw [show ((j + 1 : Nat) : Int) = (j : Int) + 1 by push_cast; rfl, ← h1]
          rfl
        refine HK.out (n - (j + 1)) _ _ (by omega) ⟨j + 1, _, _, _, _, _, _, _, _, _, _, _, _, _, _, rfl, by omega, by simp [hfr], rfl, rfl, rfl⟩
    · obtain rfl : j = n - 402 := by omega
      go_wp2_with fail
      refine HP.out.mono ?_; rintro e1 wx ⟨rfl, hw⟩
      subst hw
      go_wp2_with fail
      rw [Exit.jump_ret]
      go_ret
      exact ⟨rfl, rfl⟩
end Go.Proofs.Ytdilkgcoecipjaa
