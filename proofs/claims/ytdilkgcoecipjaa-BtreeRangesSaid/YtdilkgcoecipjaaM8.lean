/- btree: walk, Count. pages in use as nodes: what New, Put and Drop do to them. btree: New; triadlaw5: Open, within, known. btree: change.write of a node that fits on its page. -/
import Derived.Test.YtdilkgcoecipjaaBtG
import Derived.Test.YtdilkgcoecipjaaM7
import Derived.Test.YtdilkgcoecipjaaM5
namespace Go.Proofs.Ytdilkgcoecipjaa
open Go.RowKit Go.Maps
set_option linter.unusedVariables false

/-- what walks ask of a tree -/
structure TrOk (d : Nat) (t : Tr d) (Nf : Nat → Option Nd) : Prop where
  on : On Nf d t
  asc : Asc (toks d t)
  fit : Fit d t
  nodup : (pgs d t).Nodup
  few : (ents (toks d t)).length ≤ 1000
theorem TrOk.pages {d : Nat} {t : Tr d} {Nf : Nat → Option Nd} (h : TrOk d t Nf) : (pgs d t).length ≤ 2001 := by
  have := (fit_count h.fit).1
  have := h.few
  omega
theorem rng_le (l : List En) (f t : Tx) : (rngM l f t).length ≤ l.length := List.length_filter_le _ _

set_option maxRecDepth 100000 in
set_option maxHeartbeats 2000000 in
theorem walk_any (w : World) (p dd : Nat) (F : Nat → Prop) (n : Nat) (s : DS) (S T : AS) (op : Bool) (N : Nat) (Nf : Nat → Option Nd) (d : Nat) (t : Tr d) (fr to : Tx) (most : Nat) (hVw : Vw T Nf) (hpg : PgV w p dd F n s S T op N) (ht : TrOk d t Nf) (hm : most ≤ 4611686018427387904) :
    Calls Try.prog 29 #[.pointer (some ⟨p, 0, none⟩), .int .i64 (atT d t : Int), .string (B fr), .string (B to), .int .i64 (most : Int)] w fun e w' => ∃ g G us es more, e = .returned (.tuple #[.pointer (some ⟨g, 0, none⟩), .int .i64 0]) ∧ PageP d t [] es us fr to most more ∧ Wk w.heap.size w' G g p fr to most us es ∧ Below w.heap.size w w' := by
  have HVW := hid hVw
  have HPG := hid hpg
  have HT := hid ht
  have hF := hpg.lt
  have HF := hid hF
  have hmm := @run_makeMap Try.prog
  clear hVw hpg ht hF
  go_enter Try.func29, Try.ntmps29
  go_wp2_with fail
  obtain ⟨w1, hw1⟩ : ∃ x, w.alloc (Obj.map #[] 0) = x := ⟨_, rfl⟩
  obtain ⟨w2, hw2⟩ : ∃ x, w1.alloc (.cells #[.pointer (some ⟨p, 0, none⟩), .string (B fr), .string (B to), .int .i64 (most : Int), .map (some w.heap.size), .slice none 0 0, .slice none 0 0, .slice none 0 0] 71) = x := ⟨_, rfl⟩
  have hb1 : Below w.heap.size w w1 := by rw [← hw1]; exact (Below.refl _ _).alloc (Nat.le_refl _) _
  have hs1 : w1.heap.size = w.heap.size + 1 := by rw [← hw1]; simp
  have hb2 : Below w1.heap.size w1 w2 := by rw [← hw2]; exact (Below.refl _ _).alloc (Nat.le_refl _) _
  have hs2 : w2.heap.size = w.heap.size + 2 := by rw [← hw2]; simp; omega
  have hwk : Wk w.heap.size w2 (fun k => w.heap.size ≤ k ∧ k < w2.heap.size) (w.heap.size + 1) p fr to most [] [] := by
    refine ⟨w.heap.size, none, 0, none, 0, none, 0, .map [], ?_, ?_, Seen.nil, World.ownsRow_nil _ _ _ _, World.ownsRow_nil _ _ _ _, World.ownsRow_nil _ _ _ _, fun g h => (by cases h), ⟨⟨by omega, by omega⟩, ⟨by omega, by omega⟩, fun k h => (by cases h), fun k h => (by cases h), fun k h => (by cases h)⟩, fun k h => h⟩
    · rw [← hw2, ← hs1]; exact heap_alloc_new _ _
    · refine map_chg (w := w1) ?_ (Chg.new hb2 NoFp) (fun h => h)
      rw [← hw1]; exact World.ownsMap_made _ _ _ _
  have HB2 := hid (hb1.trans (hb2.mono (by omega)))
  have HWK := hid hwk
  rw [hw1, hw2]
  clear hw1 hw2 hb1 hb2 hwk
  have hfew := HT.out.few
  have hpgs := HT.out.pages
  refine (page_any w.heap.size (w.heap.size + 1) p fr to most Nf dd F n s S T op N HVW.out HF.out d w2 _ [] [] t ⟨HWK.out, HT.out.on, HT.out.asc, HT.out.fit, fun k _ h => (by cases h), HT.out.nodup, Nat.zero_le _, hm, by simp; omega, by simp; omega⟩ (HPG.out.new' HB2.out)).mono ?_
  rintro e3 w3 ⟨more, us, es, G', rfl, hP, hwk3, hc3, hg3⟩
  have HP := hid hP
  have HW3 := hid hwk3
  have HB3 := hid (HB2.out.trans (hc3.below (B := w.heap.size) (fun k hk => hk.1) (by omega)))
  clear hP hwk3 hc3 hg3
  go_wp2_with fail
  go_ret2
  exact ⟨w.heap.size + 1, G', us, es, more, rfl, HP.out, HW3.out, HB3.out⟩

set_option maxRecDepth 100000 in
theorem count_any' (w : World) (p dd : Nat) (F : Nat → Prop) (n : Nat) (s : DS) (S T : AS) (op : Bool) (N : Nat) (Nf : Nat → Option Nd) (d : Nat) (t : Tr d) (hVw : Vw T Nf) (hpg : PgV w p dd F n s S T op N) (ht : TrOk d t Nf) :
    Calls Try.prog 11 #[.pointer (some ⟨p, 0, none⟩), .int .i64 (atT d t : Int)] w fun e w' => e = .returned (.tuple #[.int .i64 ((ents (toks d t)).length : Int), .int .i64 0]) ∧ Below w.heap.size w w' := by
  have HW := hid (walk_any w p dd F n s S T op N Nf d t [] [] 2147483647 hVw hpg ht (by omega))
  have hfew := ht.few
  clear hVw hpg ht
  go_enter Try.func11, Try.ntmps11
  go_wp2_with fail
  refine HW.out.mono ?_
  rintro e1 w1 ⟨g, G, us, es, more, rfl, hP, hwk, hb⟩
  obtain ⟨mp, pp, cp, pk, ck, pv, cv, D, hw⟩ := hwk
  obtain ⟨y0, y1, y2, y3, y4, y5, y6, y7, z6, z7⟩ := wk_cells hw.blk
  have hes : es = ents (toks d t) := by
    have h1 := hP.1.1
    rw [rngM_all, List.nil_append, List.take_of_length_le (by omega)] at h1
    exact h1
  have HB := hid hb
  clear hw hP hb
  rw [hes] at y6
  go_wp2_with fail
  go_ret2
  exact ⟨rfl, HB.out⟩
end Go.Proofs.Ytdilkgcoecipjaa

namespace Go.Proofs.Ytdilkgcoecipjaa
open Go.RowKit Go.Maps
set_option linter.unusedVariables false

/-- pages in use are nodes, U of them; the page x may be none yet -/
structure Sto (T : AS) (Nf : Nat → Option Nd) (U M : Nat) (x : Option Nat) : Prop where
  vw : Vw T Nf
  used : ∀ k : Int, (T.B k).isSome = true → ∃ j : Nat, k = (j : Int) ∧ ((Nf j).isSome = true ∨ x = some j)
  ever : T.ever = (T.gone.length : Int) + (U : Int)
  lim : T.ever ≤ (M : Int)
  gone : ∀ g ∈ T.gone, 1 ≤ g ∧ g ≤ T.ever ∧ T.B g = none
  bd : ∀ k l, T.B k = some l → 1 ≤ k ∧ k ≤ T.ever
  nodup : T.gone.Nodup
  ev0 : 0 ≤ T.ever
def updN (Nf : Nat → Option Nd) (k : Nat) (o : Option Nd) : Nat → Option Nd := fun j => if j = k then o else Nf j
theorem updN_same (Nf : Nat → Option Nd) (k : Nat) (o : Option Nd) : updN Nf k o k = o := if_pos rfl
theorem updN_other {Nf : Nat → Option Nd} {k j : Nat} {o : Option Nd} (h : j ≠ k) : updN Nf k o j = Nf j := if_neg h
theorem PgV.abs {w : World} {p d : Nat} {F : Nat → Prop} {n : Nat} {s : DS} {S T : AS} {op : Bool} {N : Nat} (h : PgV w p d F n s S T op N) :
    (∀ g ∈ T.gone, 1 ≤ g ∧ g ≤ T.ever ∧ T.B g = none) ∧ (∀ k l, T.B k = some l → 1 ≤ k ∧ k ≤ T.ever) ∧ T.gone.Nodup ∧ 0 ≤ T.ever := by
  obtain ⟨was, now, ch, h1, h2, h3, h4, h5⟩ := h
  exact ⟨h4.gbd, h4.bd, h4.nodup, h4.ev0⟩
theorem sto_zero (M : Nat) : Sto as0 (fun _ => none) 0 M none :=
  ⟨fun k nd h => (by cases h), fun k h => (by cases h), rfl, by simp [as0], fun g h => (by cases h), fun k l h => (by cases h), List.nodup_nil, by simp [as0]⟩
theorem Sto.new {T : AS} {Nf : Nat → Option Nd} {U M : Nat} (h : Sto T Nf U M none) (hM : M ≤ 1190) (hU : U + 1 ≤ M) :
    ∃ (k : Nat) (T2 : AS), newO 1600 true T = ((k : Int), 0, T2) ∧ Nf k = none ∧ k < 65536 ∧ Sto T2 Nf (U + 1) M (some k) ∧ (T2.B (k : Int)).isSome = true ∧ T2.root = T.root := by
  have hnone : ∀ k : Nat, T.B (k : Int) = none → Nf k = none := fun k hk => by
    cases hn : Nf k with
    | none => rfl
    | some nd => have := (h.vw k nd hn).1; rw [hk] at this; cases this
  rw [show newO 1600 true T = newA 1600 T from if_neg (by simp)]
  have hev := h.ever
  have hlim := h.lim
  have hev0 := h.ev0
  unfold newA
  rcases hg : T.gone with _ | ⟨g, gs⟩
  · rw [hg] at hev
    simp only [List.length_nil] at hev
    simp only
    rw [if_pos (by omega)]
    obtain ⟨k, hk⟩ : ∃ k : Nat, T.ever + 1 = (k : Int) := ⟨(T.ever + 1).toNat, by omega⟩
    have hB : T.B (k : Int) = none := by
      cases hb : T.B (k : Int) with
      | none => rfl
      | some l => have := (h.bd _ _ hb).2; omega
    have hS : ∀ q : Int, ((({ B := T.B, gone := [], ever := T.ever + 1, root := T.root } : AS).set (T.ever + 1) (some (pad504 []))).B q) = if q = (k : Int) then some (pad504 []) else T.B q := fun q => by rw [hk]; rfl
    refine ⟨k, ({ B := T.B, gone := [], ever := T.ever + 1, root := T.root } : AS).set (T.ever + 1) (some (pad504 [])), by rw [hk], hnone k hB, by omega, ⟨?_, ?_, ?_, ?_, ?_, ?_, ?_, ?_⟩, ?_, rfl⟩
    · intro j nd hj
      obtain ⟨a, b⟩ := h.vw j nd hj
      refine ⟨?_, b⟩
      rw [hS, if_neg (fun e => by rw [e, hB] at a; cases a)]
      exact a
    · intro q hq
      rw [hS] at hq
      by_cases e : q = (k : Int)
      · exact ⟨k, e, .inr rfl⟩
      · rw [if_neg e] at hq
        obtain ⟨j, hj, hj2⟩ := h.used q hq
        exact ⟨j, hj, hj2.imp id (fun h => by cases h)⟩
    · show T.ever + 1 = ((([] : List Int).length : Nat) : Int) + ((U + 1 : Nat) : Int)
      simp only [List.length_nil]; omega
    · show T.ever + 1 ≤ (M : Int)
      omega
    · intro x hx
      have hx : x ∈ ([] : List Int) := hx
      cases hx
    · intro q l hq
      rw [hS] at hq
      show 1 ≤ q ∧ q ≤ T.ever + 1
      by_cases e : q = (k : Int)
      · omega
      · rw [if_neg e] at hq
        have := h.bd q l hq; omega
    · exact List.nodup_nil
    · show 0 ≤ T.ever + 1
      omega
    · rw [hS, if_pos rfl]; rfl
  · have hgb := h.gone g (by rw [hg]; exact List.mem_cons_self ..)
    simp only
    obtain ⟨k, hk⟩ : ∃ k : Nat, g = (k : Int) := ⟨g.toNat, by omega⟩
    subst hk
    have hS : ∀ q : Int, (({ T with gone := gs }.set (k : Int) (some (pad504 [])) : AS).B q) = if q = (k : Int) then some (pad504 []) else T.B q := fun q => rfl
    have hnd := h.nodup
    rw [hg] at hnd hev
    have hnd2 := List.nodup_cons.1 hnd
    simp only [List.length_cons] at hev
    refine ⟨k, _, rfl, hnone k hgb.2.2, by omega, ⟨?_, ?_, ?_, ?_, ?_, ?_, ?_, ?_⟩, ?_, rfl⟩
    · intro j nd hj
      obtain ⟨a, b⟩ := h.vw j nd hj
      refine ⟨?_, b⟩
      rw [hS, if_neg (fun e => by rw [e, hgb.2.2] at a; cases a)]
      exact a
    · intro q hq
      rw [hS] at hq
      by_cases e : q = (k : Int)
      · exact ⟨k, e, .inr rfl⟩
      · rw [if_neg e] at hq
        obtain ⟨j, hj, hj2⟩ := h.used q hq
        exact ⟨j, hj, hj2.imp id (fun h => by cases h)⟩
    · show T.ever = ((gs.length : Nat) : Int) + ((U + 1 : Nat) : Int)
      omega
    · exact hlim
    · intro x hx
      have hx : x ∈ gs := hx
      have h1 := h.gone x (by rw [hg]; exact List.mem_cons_of_mem _ hx)
      refine ⟨h1.1, h1.2.1, ?_⟩
      rw [hS, if_neg (fun e => hnd2.1 (by rw [← e]; exact hx))]
      exact h1.2.2
    · intro q l hq
      rw [hS] at hq
      show 1 ≤ q ∧ q ≤ T.ever
      by_cases e : q = (k : Int)
      · omega
      · rw [if_neg e] at hq
        exact h.bd q l hq
    · exact hnd2.2
    · exact hev0
    · rw [hS, if_pos rfl]; rfl
theorem Sto.put {T : AS} {Nf : Nat → Option Nd} {U M : Nat} {x : Option Nat} {k : Nat} (h : Sto T Nf U M x) (hx : x = none ∨ x = some k) (hk : (T.B (k : Int)).isSome = true) (nd : Nd) (hok : OkN nd) (hs : sizeP nd ≤ 504) (hk6 : k < 65536) :
    ∃ T2 : AS, putO true T (k : Int) (enc nd) = (0, T2) ∧ Sto T2 (updN Nf k (some nd)) U M none ∧ T2.root = T.root ∧ T2.B = (T.set (k : Int) (some (pad504 (enc nd)))).B := by
  rw [show putO true T (k : Int) (enc nd) = putA T (k : Int) (enc nd) from if_neg (by simp)]
  unfold putA
  rw [if_pos hk, if_neg (by rw [enc_length]; omega)]
  have hS : ∀ q : Int, ((T.set (k : Int) (some (pad504 (enc nd)))).B q) = if q = (k : Int) then some (pad504 (enc nd)) else T.B q := fun q => rfl
  obtain ⟨l0, hl0⟩ := Option.isSome_iff_exists.1 hk
  have hkb := h.bd _ _ hl0
  refine ⟨_, rfl, ⟨?_, ?_, h.ever, h.lim, ?_, ?_, h.nodup, h.ev0⟩, rfl, rfl⟩
  · intro j m hj
    unfold updN at hj
    by_cases e : j = k
    · rw [if_pos e] at hj
      cases hj
      subst e
      exact ⟨by rw [hS, if_pos rfl], hok, hs, hk6⟩
    · rw [if_neg e] at hj
      obtain ⟨a, b⟩ := h.vw j m hj
      exact ⟨by rw [hS, if_neg (by omega)]; exact a, b⟩
  · intro q hq
    rw [hS] at hq
    by_cases e : q = (k : Int)
    · exact ⟨k, e, .inl (by rw [updN_same]; rfl)⟩
    · rw [if_neg e] at hq
      obtain ⟨j, hj, hj2⟩ := h.used q hq
      have hjk : j ≠ k := fun h2 => e (by rw [hj, h2])
      refine ⟨j, hj, .inl ?_⟩
      rw [updN_other hjk]
      rcases hj2 with h2 | h2
      · exact h2
      · rcases hx with h3 | h3
        · rw [h3] at h2; cases h2
        · rw [h3] at h2; cases h2; exact absurd rfl hjk
  · intro g hg
    have h1 := h.gone g hg
    refine ⟨h1.1, h1.2.1, ?_⟩
    rw [hS, if_neg (fun e => by rw [e, hl0] at h1; cases h1.2.2)]
    exact h1.2.2
  · intro q l hq
    rw [hS] at hq
    by_cases e : q = (k : Int)
    · rw [e]; exact hkb
    · rw [if_neg e] at hq; exact h.bd q l hq
theorem nodup_len : ∀ {us l : List Int}, us.Nodup → (∀ k ∈ us, k ∈ l) → us.length ≤ l.length
  | [], _, _, _ => Nat.zero_le _
  | a :: us, l, hn, h => by
    have hn2 := List.nodup_cons.1 hn
    have h1 := nodup_len (us := us) (l := l.erase a) hn2.2 (fun k hk => (List.mem_erase_of_ne (fun e => by subst e; exact hn2.1 hk)).2 (h k (List.mem_cons_of_mem _ hk)))
    have h2 := List.length_erase_of_mem (h a (List.mem_cons_self ..))
    have h3 := List.length_pos_of_mem (h a (List.mem_cons_self ..))
    rw [List.length_cons]; omega
theorem Sto.drop {T : AS} {Nf : Nat → Option Nd} {U M : Nat} {k : Nat} {nd : Nd} (h : Sto T Nf U M none) (hk : Nf k = some nd) :
    ∃ T2 : AS, dropO true T (k : Int) = (0, T2) ∧ Sto T2 (updN Nf k none) (U - 1) M none ∧ 1 ≤ U ∧ T2.root = T.root := by
  rw [show dropO true T (k : Int) = dropA T (k : Int) from if_neg (by simp)]
  obtain ⟨hB, _⟩ := h.vw k nd hk
  unfold dropA
  rw [if_pos (by rw [hB]; rfl)]
  have hkb := h.bd _ _ hB
  have hS : ∀ q : Int, (({ T with gone := (k : Int) :: T.gone }.set (k : Int) none : AS).B q) = if q = (k : Int) then none else T.B q := fun q => rfl
  have hU : 1 ≤ U := by
    -- the gone ones are distinct numbers from 1 to ever, and k is none of them
    have hlt : T.gone.length < T.ever.toNat := by
      have h1 : ((k : Int) :: T.gone).Nodup := List.nodup_cons.2 ⟨fun hm => (by have := (h.gone _ hm).2.2; rw [hB] at this; cases this), h.nodup⟩
      have h2 : ∀ x ∈ (k : Int) :: T.gone, x ∈ (List.range T.ever.toNat).map (fun i : Nat => (i : Int) + 1) := by
        intro x hx
        have hb : 1 ≤ x ∧ x ≤ T.ever := by
          rcases List.mem_cons.1 hx with rfl | hx
          · exact hkb
          · have := h.gone x hx; exact ⟨this.1, this.2.1⟩
        exact List.mem_map.2 ⟨(x - 1).toNat, List.mem_range.2 (by omega), by omega⟩
      have h3 := nodup_len h1 h2
      rw [List.length_cons, List.length_map, List.length_range] at h3
      omega
    have := h.ever
    omega
  refine ⟨_, rfl, ⟨?_, ?_, ?_, h.lim, ?_, ?_, ?_, h.ev0⟩, hU, rfl⟩
  · intro j m hj
    unfold updN at hj
    by_cases e : j = k
    · rw [if_pos e] at hj; cases hj
    · rw [if_neg e] at hj
      obtain ⟨a, b⟩ := h.vw j m hj
      exact ⟨by rw [hS, if_neg (by omega)]; exact a, b⟩
  · intro q hq
    rw [hS] at hq
    by_cases e : q = (k : Int)
    · rw [if_pos e] at hq; cases hq
    · rw [if_neg e] at hq
      obtain ⟨j, hj, hj2⟩ := h.used q hq
      have hjk : j ≠ k := fun h2 => e (by rw [hj, h2])
      exact ⟨j, hj, .inl (by rw [updN_other hjk]; exact hj2.elim id (fun h => by cases h))⟩
  · show T.ever = ((((k : Int) :: T.gone).length : Nat) : Int) + ((U - 1 : Nat) : Int)
    rw [List.length_cons]
    have := h.ever
    omega
  · intro g hg
    rcases List.mem_cons.1 hg with rfl | hg
    · exact ⟨hkb.1, hkb.2, by rw [hS, if_pos rfl]⟩
    · have h1 := h.gone g hg
      refine ⟨h1.1, h1.2.1, ?_⟩
      rw [hS]
      split
      · rfl
      · exact h1.2.2
  · intro q l hq
    rw [hS] at hq
    by_cases e : q = (k : Int)
    · rw [if_pos e] at hq; cases hq
    · rw [if_neg e] at hq; exact h.bd q l hq
  · exact List.nodup_cons.2 ⟨fun hm => (by have := (h.gone _ hm).2.2; rw [hB] at this; cases this), h.nodup⟩
end Go.Proofs.Ytdilkgcoecipjaa

namespace Go.Proofs.Ytdilkgcoecipjaa
open Go.RowKit Go.Maps
set_option linter.unusedVariables false

/-- a pager behind m calls -/
def PgM (m : Nat) (w : World) (p d : Nat) (F : Nat → Prop) (s : DS) (S T2 : AS) (N : Nat) (w' : World) : Prop :=
  ∃ F' N', PgV w' p d F' 1600 s S T2 true N' ∧ N' ≤ N + m ∧ Chg F w w' ∧ ∀ k, F' k → F k ∨ w.heap.size ≤ k
theorem PgM.trans {m1 m2 : Nat} {w w1 w2 : World} {p d : Nat} {F : Nat → Prop} {s : DS} {S T1 T2 : AS} {N : Nat} (h : PgM m1 w p d F s S T1 N w1) (k : ∀ F' N', PgV w1 p d F' 1600 s S T1 true N' → N' ≤ N + m1 → (∀ x, F' x → x < w1.heap.size) → PgM m2 w1 p d F' s S T2 N' w2) : PgM (m1 + m2) w p d F s S T2 N w2 := by
  obtain ⟨F1, N1, h1, h2, h3, h4⟩ := h
  obtain ⟨F2, N2, k1, k2, k3, k4⟩ := k F1 N1 h1 h2 h1.lt
  refine ⟨F2, N2, k1, by omega, h3.trans k3 (fun i hi hf => (h4 i hf).elim id (fun h => by omega)), fun x hx => ?_⟩
  rcases k4 x hx with h | h
  · exact h4 x h
  · have := h3.size; exact .inr (by omega)
theorem PgM.mono {m1 m2 : Nat} {w w1 : World} {p d : Nat} {F : Nat → Prop} {s : DS} {S T1 : AS} {N : Nat} (h : PgM m1 w p d F s S T1 N w1) (hm : m1 ≤ m2) : PgM m2 w p d F s S T1 N w1 := by
  obtain ⟨F1, N1, h1, h2, h3, h4⟩ := h
  exact ⟨F1, N1, h1, by omega, h3, h4⟩
theorem PgM.below {m : Nat} {w w1 w2 : World} {p d : Nat} {F : Nat → Prop} {s : DS} {S T1 : AS} {N : Nat} (h : PgM m w p d F s S T1 N w1) (hb : Below w1.heap.size w1 w2) : PgM m w p d F s S T1 N w2 := by
  obtain ⟨F1, N1, h1, h2, h3, h4⟩ := h
  exact ⟨F1, N1, h1.new' hb, h2, h3.trans (Chg.new hb NoFp) (fun _ _ h => h.elim), h4⟩
theorem PgM.step {m : Nat} {w w2 w3 : World} {p d : Nat} {F F2 : Nat → Prop} {s : DS} {S T2 : AS} {N N2 : Nat} (h2 : N2 ≤ N + m) (hc2 : Chg F w w2) (hF2 : ∀ k, F2 k → F k ∨ w.heap.size ≤ k) (h3 : PgTo w2 p d F2 1600 s S T2 true N2 w3) : PgM (m + 1) w p d F s S T2 N w3 := by
  obtain ⟨F3, N3, k1, k2, k3, k4⟩ := h3
  have := hc2.size
  refine ⟨F3, N3, k1, by omega, hc2.trans k3 (fun i hi hf => (hF2 i hf).elim id (fun h => by omega)), fun x hx => ?_⟩
  rcases k4 x hx with h | h
  · exact hF2 x h
  · exact .inr (by omega)
abbrev nd0 : Nd := ⟨true, [], [], []⟩

set_option maxRecDepth 100000 in
set_option maxHeartbeats 2000000 in
theorem bnew_any (w : World) (p d : Nat) (F : Nat → Prop) (s : DS) (S T : AS) (N : Nat) (Nf : Nat → Option Nd) (U M : Nat) (hpg : PgV w p d F 1600 s S T true N) (hN : N ≤ 999990) (hst : Sto T Nf U M none) (hM : M ≤ 1190) (hU : U + 1 ≤ M) :
    Calls Try.prog 9 #[.pointer (some ⟨p, 0, none⟩)] w fun e w' => ∃ (k : Nat) (T2 : AS), e = .returned (.tuple #[.int .i64 (k : Int), .int .i64 0]) ∧ PgM 2 w p d F s S T2 N w' ∧ Sto T2 (updN Nf k (some nd0)) (U + 1) M none ∧ Nf k = none ∧ k < 65536 ∧ T2.root = T.root := by
  obtain ⟨k, T1, hnew, hk, hk6, hs1, hB1, hr1⟩ := hst.new hM hU
  obtain ⟨T2, hput, hs2, hr2, _⟩ := hs1.put (.inr rfl) hB1 nd0 (by unfold OkN; rw [if_pos rfl]; exact ⟨rfl, rfl, fun e h => (by cases h)⟩) (by decide) hk6
  have HPG := hid hpg
  have HFIN := hid (And.intro hs2 (And.intro hk (And.intro hk6 (hr2.trans hr1))))
  have HNEW := hid hnew
  have HPUT := hid hput
  clear hpg hst hnew hput hs1 hB1 hs2 hk hr1 hr2
  go_enter Try.func9, Try.ntmps9
  go_wp2_with fail
  refine (HPG.out.new (by omega)).mono ?_
  rw [HNEW.out]
  rintro e1 w1 ⟨rfl, hp1⟩
  have hp1 : PgM 1 w p d F s S T1 N w1 := hp1
  have HP1 := hid hp1
  clear hp1
  go_wp2_with fail
  refine (bytes_any w1 nd0 true none 0 0 none 0 0 none 0 0 ⟨rfl, Rd.nil _ _, Rd.nil _ _, Rd.nil _ _⟩ rfl rfl rfl (fun _ => rfl) (by decide)).mono ?_
  rintro e2 w2 ⟨pb, cb, rfl, hob, hb2⟩
  have HP2 := hid (HP1.out.below hb2)
  have HOB := hid (Rd.of_own hob)
  clear hob hb2
  go_wp2_with fail
  obtain ⟨F2, N2, hv2, hN2, hc2, hF2⟩ := HP2.out
  refine (hv2.put (k : Int) _ (enc nd0) HOB.out (by decide) (by omega)).mono ?_
  rw [HPUT.out]
  rintro e3 w3 ⟨rfl, hp3⟩
  have HP3 := hid (PgM.step hN2 hc2 hF2 hp3)
  clear hv2 hN2 hc2 hF2 hp3
  go_wp2_with fail
  go_ret2
  exact ⟨k, T2, rfl, HP3.out, HFIN.out⟩

/-- how many pages are free -/
theorem frees_used (A : AS) (ps : List Nat) (m : Nat) (hn : ps.Nodup) (hu : ∀ k ∈ ps, 1 ≤ k) (h : ∀ k : Nat, 1 ≤ k → ((A.B (k : Int)).isSome = true ↔ k ∈ ps)) : frees A m + (ps.filter (fun k => decide (k ≤ m))).length = m := by
  induction m with
  | zero =>
    have : ps.filter (fun k => decide (k ≤ 0)) = [] := List.filter_eq_nil_iff.2 (fun k hk => by have := hu k hk; simp; omega)
    rw [this]; rfl
  | succ m ih =>
    rw [frees]
    have hsplit : ∀ l : List Nat, l.Nodup → (l.filter (fun k => decide (k ≤ m + 1))).length = (l.filter (fun k => decide (k ≤ m))).length + (if (m + 1) ∈ l then 1 else 0) := by
      intro l
      induction l with
      | nil => intro _; rfl
      | cons a l ih2 =>
        intro hl
        have h2 := List.nodup_cons.1 hl
        have h3 := ih2 h2.2
        by_cases e : a = m + 1
        · subst e
          rw [List.filter_cons_of_pos (by simp), List.filter_cons_of_neg (by simp), if_pos (List.mem_cons_self ..), List.length_cons]
          rw [if_neg h2.1] at h3
          omega
        · have e2 : ¬ m + 1 = a := fun h => e h.symm
          by_cases e3 : a ≤ m
          · rw [List.filter_cons_of_pos (by simp; omega), List.filter_cons_of_pos (by simpa using e3), List.length_cons, List.length_cons, h3]
            simp only [List.mem_cons, e2, false_or]
            omega
          · rw [List.filter_cons_of_neg (by simp; omega), List.filter_cons_of_neg (by simpa using e3), h3]
            simp only [List.mem_cons, e2, false_or]
    rw [hsplit ps hn]
    have hm := h (m + 1) (by omega)
    by_cases e : (m + 1) ∈ ps
    · rw [if_pos (hm.2 e), if_pos e]; omega
    · rw [if_neg (fun h2 => e (hm.1 h2)), if_neg e]; omega
theorem Sto.frees {T : AS} {Nf : Nat → Option Nd} {U M : Nat} {ps : List Nat} (h : Sto T Nf U M none) (hM : M ≤ 1190) (hn : ps.Nodup) (hps : ∀ k, (Nf k).isSome = true ↔ k ∈ ps) : frees T 1198 = 1198 - ps.length ∧ ps.length ≤ 1198 := by
  have hiff : ∀ k : Nat, (T.B (k : Int)).isSome = true ↔ k ∈ ps := by
    intro k
    rw [← hps k]
    constructor
    · intro hk
      obtain ⟨j, hj, hj2⟩ := h.used _ hk
      have : k = j := by omega
      subst this
      rcases hj2 with h2 | h2
      · exact h2
      · cases h2
    · intro hk
      obtain ⟨nd, hnd⟩ := Option.isSome_iff_exists.1 hk
      rw [(h.vw k nd hnd).1]; rfl
  have hbd : ∀ k ∈ ps, 1 ≤ k ∧ k ≤ 1198 := by
    intro k hk
    obtain ⟨l, hl⟩ := Option.isSome_iff_exists.1 ((hiff k).2 hk)
    have h1 := h.bd _ _ hl
    have h2 := h.lim
    omega
  have h1 := frees_used T ps 1198 hn (fun k hk => (hbd k hk).1) (fun k _ => hiff k)
  rw [List.filter_eq_self.2 (fun k hk => by simpa using (hbd k hk).2)] at h1
  omega

theorem within5_any (w : World) (a n : Int) (hn : 0 < n) (hn2 : n ≤ 1000000) :
    Calls Try.prog 7 #[.int .i64 a, .int .i64 n] w fun e w' => e = .returned (.int .i64 (a % n)) ∧ w' = w := by
  have h1 := hid (tmod_up a n hn)
  have h2 := tmod_bd a n hn
  have hz : (n == 0) = false := by rw [beq_eq_false_iff_ne]; omega
  have hw1 : IntKind.i64.wrap (a.tmod n) = a.tmod n := i64_small (by omega) (by omega)
  have hw2 : IntKind.i64.wrap (a.tmod n + n) = a.tmod n + n := i64_small (by omega) (by omega)
  by_cases hlt : a.tmod n < 0
  · go_enter Try.func7, Try.ntmps7
    go_wp2_with fail
    go_ret
    have h3 := h1.out
    rw [if_pos hlt] at h3
    exact ⟨by first | (rw [h3]; done) | (rw [← h3]; rfl) | rfl, rfl⟩
  · go_enter Try.func7, Try.ntmps7
    go_wp2_with fail
    go_ret
    have h3 := h1.out
    rw [if_neg (by omega)] at h3
    exact ⟨by first | (rw [h3]; done) | (rw [← h3]; rfl) | rfl, rfl⟩

/-- a pager on a new disk, with a transaction -/
theorem open5_any' (w : World) :
    Calls Try.prog 8 #[] w fun e w' => ∃ p d F N, e = .returned (.pointer (some ⟨p, 0, none⟩)) ∧ PgV w' p d F 1600 (dNew 1600) as0 as0 true N ∧ N ≤ 1 ∧ Below w.heap.size w w' ∧ ∀ k, F k → w.heap.size ≤ k := by
  go_enter Try.func8, Try.ntmps8
  go_wp2_with fail
  refine (dNew_any w 1600).mono ?_
  rintro e1 w1 ⟨d, rfl, hd1, hb1, hd⟩
  rw [show clampN 1600 = 1600 from rfl] at hd1
  have D1 := hid hd1
  have B1 := hid hb1
  clear hd1 hb1
  go_wp2_with fail
  refine (openNew w1 1600 (by omega) (by omega) d _ D1.out).mono ?_
  rintro e2 w2 ⟨p, F, rfl, hv, hc, hp, hF⟩
  have V2 := hid hv
  have HF : Hid (∀ k, F k → w.heap.size ≤ k) := hid (fun k hk => (hF k hk).elim (fun h => h.1) (fun h => Nat.le_trans B1.out.size h))
  have B2 := hid (B1.out.trans (hc.below (fun k hk => hk.1) B1.out.size))
  clear hv hc hF
  go_wp2_with fail
  refine V2.out.begin.mono ?_
  rintro e3 w3 ⟨rfl, F3, N3, hv, hN3, hc, hF⟩
  have V3 := hid hv
  have HN3 := hid hN3
  have HF3 : Hid (∀ k, F3 k → w.heap.size ≤ k) := hid (fun k hk => (hF k hk).elim (HF.out k) (fun h => Nat.le_trans B2.out.size h))
  have B3 := hid (B2.out.trans (hc.below (fun k hk => HF.out k hk) B2.out.size))
  clear hv hc hF
  go_wp2_with fail
  go_ret
  exact ⟨p, d, F3, N3, rfl, V3.out, HN3.out, B3.out, HF3.out⟩

/-- the empty tree -/
abbrev tr0 (k : Nat) : Tr 0 := (k, [])
theorem tr0_ok (k : Nat) (Nf : Nat → Option Nd) (h : Nf k = some nd0) : TrOk 0 (tr0 k) Nf :=
  ⟨h, List.Pairwise.nil, .inl rfl, by show ([k] : List Nat).Nodup; simp, by show (ents ([] : List Tok)).length ≤ 1000; decide⟩
/-- a tree that has all pages that are in use -/
structure Whole (d : Nat) (t : Tr d) (T : AS) (Nf : Nat → Option Nd) (M : Nat) : Prop where
  ok : TrOk d t Nf
  sto : Sto T Nf (pgs d t).length M none
  all : ∀ k, (Nf k).isSome = true ↔ k ∈ pgs d t
theorem whole_new {T1 T2 : AS} {k U M : Nat} (hs : Sto T2 (updN (fun _ => none) k (some nd0)) (0 + 1) M none) : Whole 0 (tr0 k) T2 (updN (fun _ => none) k (some nd0)) M :=
  ⟨tr0_ok k _ (updN_same ..), hs, fun j => by
    show _ ↔ j ∈ [k]
    unfold updN
    by_cases e : j = k
    · simp [e]
    · simp [e]⟩

set_option maxRecDepth 100000 in
set_option maxHeartbeats 2000000 in
theorem known5_any (w : World) : Calls Try.prog 6 #[] w fun e w' => e = .returned (.bool true) ∧ Below w.heap.size w w' := by
  go_enter Try.func6, Try.ntmps6
  go_wp2_with fail
  refine (open5_any' w).mono ?_
  rintro e1 w1 ⟨p, d, F, N, rfl, hv, hN, hb, hF⟩
  have V1 := hid hv
  have B1 := hid hb
  have HF := hid hF
  clear hv hb hF
  have hfr0 : frees as0 1198 = 1198 := by
    have := frees_used as0 [] 1198 List.nodup_nil (fun k h => by cases h) (fun k _ => by simp [as0])
    simpa using this
  have HFR0 := hid hfr0
  clear hfr0
  go_wp2_with fail
  refine V1.out.free.mono ?_
  rw [show 1600 - 402 = 1198 from rfl, HFR0.out]
  rintro e2 wx ⟨rfl, hw⟩
  subst hw
  go_wp2_with fail
  refine (bnew_any _ p d F _ _ _ N _ 0 1190 V1.out (by omega) (sto_zero 1190) (by omega) (by omega)).mono ?_
  rintro e3 w3 ⟨k, T2, rfl, hp3, hs3, _, hk6, _⟩
  have HWH := hid (whole_new (T1 := as0) (U := 0) hs3)
  obtain ⟨F3, N3, hv3, hN3, hc3, hF3⟩ := hp3
  have V3 := hid hv3
  have B3 := hid (B1.out.trans (hc3.below (fun k hk => HF.out k hk) B1.out.size))
  clear hs3 hv3 hN3 hc3 hF3
  go_wp2_with fail
  refine (count_any' w3 p d F3 1600 _ _ T2 true N3 _ 0 (tr0 k) HWH.out.sto.vw V3.out HWH.out.ok).mono ?_
  rintro e4 w4 ⟨rfl, hb4⟩
  have V4 := hid (V3.out.new' hb4)
  have B4 := hid (B3.out.trans (hb4.mono B3.out.size))
  clear hb4
  have hfr := (HWH.out.sto.frees (by omega) HWH.out.ok.nodup HWH.out.all).1
  rw [show (pgs 0 (tr0 k)).length = 1 from rfl] at hfr
  have HFR := hid hfr
  clear hfr
  rw [show ((ents (toks 0 (tr0 k))).length : Int) = 0 from rfl]
  go_wp2_with fail
  refine V4.out.free.mono ?_
  rw [show 1600 - 402 = 1198 from rfl, HFR.out]
  rintro e5 wx ⟨rfl, hw⟩
  subst hw
  go_wp2_with fail
  go_ret
  exact ⟨rfl, B4.out⟩
end Go.Proofs.Ytdilkgcoecipjaa

namespace Go.Proofs.Ytdilkgcoecipjaa
open Go.RowKit Go.Maps
set_option linter.unusedVariables false

abbrev TCh : TypeId := 64
abbrev TPt : TypeId := 116
/-- a change's cells -/
def chC (p : Nat) (key val : Tx) (del was last : Bool) (lv : Nat) : List Value := [.pointer (some ⟨p, 0, none⟩), .string (B key), .string (B val), .bool del, .bool was, .bool last, .int .i64 (lv : Int)]
theorem ch_cells {w : World} {c p : Nat} {key val : Tx} {del was last : Bool} {lv : Nat} {T : TypeId} (h : Blk w c (chC p key val del was last lv) T) :
    w.cell? ⟨c, 0, none⟩ = some (.pointer (some ⟨p, 0, none⟩)) ∧ w.cell? ⟨c, 1, none⟩ = some (.string (B key)) ∧ w.cell? ⟨c, 2, none⟩ = some (.string (B val)) ∧ w.cell? ⟨c, 3, none⟩ = some (.bool del) ∧ w.cell? ⟨c, 4, none⟩ = some (.bool was) ∧ w.cell? ⟨c, 5, none⟩ = some (.bool last) ∧ w.cell? ⟨c, 6, none⟩ = some (.int .i64 (lv : Int)) ∧
    w.frozen? ⟨c, 4, none⟩ = false ∧ w.frozen? ⟨c, 5, none⟩ = false ∧ w.frozen? ⟨c, 6, none⟩ = false :=
  ⟨h.cell 0, h.cell 1, h.cell 2, h.cell 3, h.cell 4, h.cell 5, h.cell 6, h.frozen 4, h.frozen 5, h.frozen 6⟩
/-- parts as they lie in memory -/
def ptV (l : List (Nat × Tx)) : List Value := l.flatMap fun x => [.int .i64 (x.1 : Int), .string (B x.2)]
/-- what a change of pages hands back: the parts, the pager -/
def WrTo (m : Nat) (w : World) (p d : Nat) (F : Nat → Prop) (s : DS) (S : AS) (N : Nat) (T2 : AS) (l : List (Nat × Tx)) (e : Ending) (w' : World) : Prop :=
  ∃ (q : Nat) (F' : Nat → Prop) (N' : Nat), e = .returned (.tuple #[.slice (some ⟨q, 0, none⟩) l.length l.length, .int .i64 0]) ∧ Blk w' q (ptV l) TPt ∧ PgV w' p d F' 1600 s S T2 true N' ∧ N' ≤ N + m ∧ Chg F w w' ∧ (∀ k, F' k → F k ∨ w.heap.size ≤ k) ∧ ¬ F' q ∧ w.heap.size ≤ q

theorem size_any2 (w : World) (n : Nd) (lf : Bool) (pk : Option Addr) (nk ck : Nat) (pv : Option Addr) (nv cv : Nat) (pd : Option Addr) (nc cd : Nat) (h : NdAt w lf pk ck pv cv pd cd n) (hnk : n.keys.length = nk) (hnv : n.vals.length = nv) (hnc : n.kids.length = nc) (hv : n.leaf = true → n.vals.length = n.keys.length) (hs : sizeP n ≤ 100000) :
    Calls Try.prog 88 #[ndV lf pk nk ck pv nv cv pd nc cd] w fun e w' => e = .returned (.int .i64 (sizeP n : Int)) ∧ Below w.heap.size w w' := by
  subst hnk hnv hnc
  exact size_any w n lf pk ck pv cv pd cd h hv hs

set_option maxRecDepth 100000 in
set_option maxHeartbeats 8000000 in
theorem write_fit (w : World) (c p d : Nat) (F : Nat → Prop) (s : DS) (S T : AS) (N : Nat) (Nf : Nat → Option Nd) (U M : Nat) (key val : Tx) (del was last : Bool) (lv : Nat) (at_ : Nat) (nd : Nd) (lf : Bool) (pk : Option Addr) (nk ck : Nat) (pv : Option Addr) (nv cv : Nat) (pd : Option Addr) (nc cd : Nat)
    (hc : Blk w c (chC p key val del was last lv) TCh) (hcF : ¬ F c) (hnd : NdAt w lf pk ck pv cv pd cd nd) (hnk : nd.keys.length = nk) (hnv : nd.vals.length = nv) (hnc : nd.kids.length = nc) (hpg : PgV w p d F 1600 s S T true N) (hN : N ≤ 999990) (hst : Sto T Nf U M none) (hat : (Nf at_).isSome = true) (hok : OkN nd) (hsz : sizeP nd ≤ 504) :
    Calls Try.prog 77 #[.pointer (some ⟨c, 0, none⟩), .int .i64 (at_ : Int), ndV lf pk nk ck pv nv cv pd nc cd] w fun e w' => ∃ T2, WrTo 1 w p d F s S N T2 [(at_, [])] e w' ∧ Sto T2 (updN Nf at_ (some nd)) U M none ∧ T2.root = T.root := by
  obtain ⟨od, hod⟩ := Option.isSome_iff_exists.1 hat
  obtain ⟨hB, _, _, hk6⟩ := hst.vw at_ od hod
  obtain ⟨T2, hput, hs2, hr2, _⟩ := hst.put (.inl rfl) (by rw [hB]; rfl) nd hok hsz hk6
  have hvl : nd.leaf = true → nd.vals.length = nd.keys.length := fun h => (okn_leaf hok h).1
  have HVL := hid hvl
  have HND := hid hnd
  have HNK := hid hnk
  have HNV := hid hnv
  have HNC := hid hnc
  have HPG := hid hpg
  have HPUT := hid hput
  have HFIN := hid (And.intro hs2 hr2)
  have HSZ := hid hsz
  have HCC := hid hc
  have HCF := hid hcF
  have hcl := hc.lt
  clear hc hcF hnd hnk hnv hnc hpg hst hat hok hsz hod hB hput hs2 hr2 hvl
  go_enter Try.func77, Try.ntmps77
  unfold ndV
  go_wp2_with fail
  obtain ⟨t5, ht5⟩ : ∃ b, w.heap.size = b := ⟨_, rfl⟩
  obtain ⟨w1, hw1⟩ : ∃ x, w.alloc (.cells #[.bool lf, .slice pk nk ck, .slice pv nv cv, .slice pd nc cd] 59) = x := ⟨_, rfl⟩
  have hal : Below w.heap.size w w1 := by rw [← hw1]; exact (Below.refl _ _).alloc (Nat.le_refl _) _
  have HT1 : Hid (Blk w1 t5 [.bool lf, .slice pk nk ck, .slice pv nv cv, .slice pd nc cd] TN) := hid (by rw [← hw1, ← ht5]; exact heap_alloc_new _ _)
  have HB1 := hid hal
  have hs1 : w1.heap.size = t5 + 1 := by rw [← hw1, ← ht5]; simp
  rw [hw1]
  clear hw1 hal
  have hsz2 := HSZ.out
  refine (size_any2 w1 nd lf pk nk ck pv nv cv pd nc cd (HND.out.new HB1.out) HNK.out HNV.out HNC.out HVL.out (by omega)).mono ?_
  rintro e2 w2 ⟨rfl, hb2⟩
  have hsz3 : (sizeP nd : Int) ≤ 504 := by omega
  have HT2 := hid (HT1.out.chg (Chg.new hb2 NoFp) (fun h => h))
  have HB2 := hid (HB1.out.trans (hb2.mono (by omega)))
  have hs2 := hb2.size
  have HS5 := hid ht5
  clear hb2
  go_wp2_with fail
  obtain ⟨wz, hwz⟩ : ∃ x, w2.drew = x := ⟨_, rfl⟩
  have HCz := hid (show Blk wz c (chC p key val del was last lv) TCh by rw [← hwz]; exact (show Blk w2 c (chC p key val del was last lv) TCh from HCC.out.chg (Chg.new HB2.out NoFp) (fun h => h)))
  have HTz := hid (show Blk wz t5 [.bool lf, .slice pk nk ck, .slice pv nv cv, .slice pd nc cd] TN by rw [← hwz]; exact HT2.out)
  have HGz : Hid (Chg F w wz) := hid (by rw [← hwz]; exact (Chg.new HB2.out F).drewR 1)
  have HBz : Hid (Below w.heap.size w wz) := hid (by rw [← hwz]; exact below_drewN HB2.out 1)
  have HPz := hid (HPG.out.new' HBz.out)
  have HDz := hid (HND.out.new HBz.out)
  have HFz : Hid (∀ k, F k → F k ∨ w.heap.size ≤ k) := hid (fun k h => .inl h)
  have hNz : N ≤ N := Nat.le_refl _
  have hsz1 : t5 + 1 ≤ wz.heap.size := by rw [← hwz]; show t5 + 1 ≤ w2.heap.size; omega
  refine wp_region_plan3 (fun w' => Blk w' c (chC p key val del was last lv) TCh ∧ Blk w' t5 [.bool lf, .slice pk nk ck, .slice pv nv cv, .slice pd nc cd] TN) (fun j => !([2, 9, 10].contains j)) (fun j => [6, 8].contains j) (fun _ => false)
    (.cons 0 (.cons 1 (.cons 3 (.cons 4 (.cons 5 (.cons 6 (.cons 7 (.cons 8 (.fork 2 9 (.cons 9 (.cons 10 (.cons 11 (.cons 12 .nil)))) (.fork 2 10 (.cons 10 (.cons 11 (.cons 12 .nil))) (.cons 2 (.cons 11 (.cons 12 .nil))))))))))))) (by kernel_rfl) (by kernel_rfl) rfl (by kernel_rfl) (by kernel_rfl) (by rw [hwz]; exact ⟨HCz.out, HTz.out⟩) ?_
  iterate 8 (apply wpPlan3_val; (case ho => rfl); (case hst => rfl); (case hw => rfl); (case hv => intro w' hS; (try (have hS := hS rfl; obtain ⟨x0, x1, x2, x3, x4, x5, x6, _, _, _⟩ := ch_cells hS.1; obtain ⟨x8, x9, x10, x11, _, _, _, _⟩ := four_cells hS.2)); go_simp; first | done | rfl); intro K hK; go_simp; refine hK _ ?_; clear hK K)
  rw [hwz]
  clear hwz
  refine ⟨?_, ?_⟩
  · refine effect_list rfl rfl (fun K hK => ?_)
    refine wpList_step (fun K2 hK2 => ?_)
    go_simp
    refine hK2 _ _ ?_
    clear hK2 K2
    simp only [wpList]
    have hal1 : Below wz.heap.size wz (wz.alloc (.cells #[.int .i64 (at_ : Int), .string ⟨#[]⟩] 116)) := (Below.refl _ _).alloc (Nat.le_refl _) _
    obtain ⟨q1, hq1⟩ : ∃ b, wz.heap.size = b := ⟨_, rfl⟩
    obtain ⟨w1, hw1⟩ : ∃ x, wz.alloc (.cells #[.int .i64 (at_ : Int), .string ⟨#[]⟩] 116) = x := ⟨_, rfl⟩
    have HQ1 : Hid (Blk w1 q1 (ptV [(at_, [])]) TPt) := hid (by rw [← hw1, ← hq1]; exact heap_alloc_new _ _)
    rw [hw1] at hal1 ⊢
    rw [hq1]
    have hqF1 : Hid (¬ F q1 ∧ w.heap.size ≤ q1 ∧ q1 < w1.heap.size) := hid (by refine ⟨fun h => ?_, ?_, ?_⟩; have := HPz.out.lt _ h; omega; have := HGz.out.size; omega; exact HQ1.out.lt)
    have HC1 := hid (HCz.out.chg (Chg.new hal1 NoFp) (fun h => h))
    have HT1 := hid (HTz.out.chg (Chg.new hal1 NoFp) (fun h => h))
    have HG1 := hid (HGz.out.trans (Chg.new hal1 NoFp) (fun _ _ h => h.elim))
    have HP1 := hid (HPz.out.new' hal1)
    have HD1 := hid (HDz.out.new hal1)
    have hsz1 : t5 + 1 ≤ w1.heap.size := Nat.le_trans hsz1 hal1.size
    clear hal1 hw1 hq1
    refine hK _ _ (fun _ => ⟨HC1.out, HT1.out⟩) ?_
    clear hK K
    refine wpPlan3_list rfl rfl rfl (fun K hK => ?_)
    refine wpList_step (fun K2 hK2 => ?_)
    go_simp
    refine (bytes_any w1 nd lf pk nk ck pv nv cv pd nc cd HD1.out HNK.out HNV.out HNC.out HVL.out (by omega)).mono ?_
    rintro e2 w2 ⟨pb2, cb2, rfl, hob2, hal2⟩
    go_simp
    refine hK2 _ _ ?_
    clear hK2 K2
    simp only [wpList]
    have HO2 := hid (Rd.of_own hob2)
    clear hob2
    have HC2 := hid (HC1.out.chg (Chg.new hal2 NoFp) (fun h => h))
    have HT2 := hid (HT1.out.chg (Chg.new hal2 NoFp) (fun h => h))
    have HG2 := hid (HG1.out.trans (Chg.new hal2 NoFp) (fun _ _ h => h.elim))
    have HP2 := hid (HP1.out.new' hal2)
    have hsz2 : t5 + 1 ≤ w2.heap.size := Nat.le_trans hsz1 hal2.size
    have HQ2 := hid (HQ1.out.chg (Chg.new hal2 NoFp) (fun h => h))
    have hqF2 := hid (And.intro hqF1.out.1 (And.intro hqF1.out.2.1 (Nat.lt_of_lt_of_le hqF1.out.2.2 hal2.size)))
    clear hal2
    refine hK _ _ (fun _ => ⟨HC2.out, HT2.out⟩) ?_
    clear hK K
    refine wpPlan3_list rfl rfl rfl (fun K hK => ?_)
    refine wpList_step (fun K2 hK2 => ?_)
    go_simp
    refine (HP2.out.put (at_ : Int) _ (enc nd) HO2.out (by rw [enc_length]; omega) (by omega)).mono ?_
    rw [HPUT.out]
    rintro e3 w3 ⟨rfl, F3, N3, hv3, hN3, hc3, hF3⟩
    go_simp
    refine hK2 _ _ ?_
    clear hK2 K2
    simp only [wpList]
    have HC3 := hid (HC2.out.chg hc3 HCF.out)
    have HT3 := hid (HT2.out.chg hc3 (fun h => by have := HPG.out.lt _ h; omega))
    have HG3 := hid (HG2.out.trans hc3 (fun _ _ h => h))
    have HP3 := hid hv3
    have HF3 : Hid (∀ k, F3 k → F k ∨ w.heap.size ≤ k) := hid (fun k h => by rcases hF3 k h with h2 | h2; exact .inl h2; have := HG2.out.size; exact .inr (by omega))
    have hNN3 : N3 ≤ N + 1 := by omega
    have hsz3 : t5 + 1 ≤ w3.heap.size := Nat.le_trans hsz2 hc3.size
    have HQ3 := hid (HQ2.out.chg hc3 hqF2.out.1)
    have hqF3 : Hid (¬ F3 q1 ∧ w.heap.size ≤ q1 ∧ q1 < w3.heap.size) := hid (by refine ⟨fun h => ?_, hqF2.out.2.1, Nat.lt_of_lt_of_le hqF2.out.2.2 hc3.size⟩; rcases hF3 _ h with h2 | h2; exact hqF2.out.1 h2; have := hqF2.out.2.2; omega)
    clear hv3 hN3 hF3 hc3
    refine hK _ _ (fun _ => ⟨HC3.out, HT3.out⟩) ?_
    clear hK K
    (apply wpPlan3_val; (case ho => rfl); (case hst => rfl); (case hw => rfl); (case hv => intro w' hS; go_simp; first | done | rfl); intro K hK; go_simp; refine hK _ ?_; clear hK K)
    (apply wpPlan3_val; (case ho => rfl); (case hst => rfl); (case hw => rfl); (case hv => intro w' hS; go_simp; first | done | rfl); intro K hK; go_simp; refine hK _ ?_; clear hK K)
    refine wpPlan3_nil ?_
    simp only [Qn]
    go_wp2_with fail
    go_ret2
    exact ⟨T2, ⟨q1, F3, N3, rfl, HQ3.out, HP3.out, hNN3, HG3.out, HF3.out, hqF3.out.1, hqF3.out.2.1⟩, HFIN.out⟩
  · refine effect_list rfl rfl (fun K hK => ?_)
    refine wpList_step (fun K2 hK2 => ?_)
    go_simp
    refine (bytes_any wz nd lf pk nk ck pv nv cv pd nc cd HDz.out HNK.out HNV.out HNC.out HVL.out (by omega)).mono ?_
    rintro e4 w4 ⟨pb4, cb4, rfl, hob4, hal4⟩
    go_simp
    refine hK2 _ _ ?_
    clear hK2 K2
    simp only [wpList]
    have HO4 := hid (Rd.of_own hob4)
    clear hob4
    have HC4 := hid (HCz.out.chg (Chg.new hal4 NoFp) (fun h => h))
    have HT4 := hid (HTz.out.chg (Chg.new hal4 NoFp) (fun h => h))
    have HG4 := hid (HGz.out.trans (Chg.new hal4 NoFp) (fun _ _ h => h.elim))
    have HP4 := hid (HPz.out.new' hal4)
    have hsz4 : t5 + 1 ≤ w4.heap.size := Nat.le_trans hsz1 hal4.size
    clear hal4
    refine hK _ _ (fun _ => ⟨HC4.out, HT4.out⟩) ?_
    clear hK K
    refine ⟨?_, ?_⟩
    · refine effect_list rfl rfl (fun K hK => ?_)
      refine wpList_step (fun K2 hK2 => ?_)
      go_simp
      refine hK2 _ _ ?_
      clear hK2 K2
      simp only [wpList]
      have hal5 : Below w4.heap.size w4 (w4.alloc (.cells #[.int .i64 (at_ : Int), .string ⟨#[]⟩] 116)) := (Below.refl _ _).alloc (Nat.le_refl _) _
      obtain ⟨q5, hq5⟩ : ∃ b, w4.heap.size = b := ⟨_, rfl⟩
      obtain ⟨w5, hw5⟩ : ∃ x, w4.alloc (.cells #[.int .i64 (at_ : Int), .string ⟨#[]⟩] 116) = x := ⟨_, rfl⟩
      have HQ5 : Hid (Blk w5 q5 (ptV [(at_, [])]) TPt) := hid (by rw [← hw5, ← hq5]; exact heap_alloc_new _ _)
      rw [hw5] at hal5 ⊢
      rw [hq5]
      have hqF5 : Hid (¬ F q5 ∧ w.heap.size ≤ q5 ∧ q5 < w5.heap.size) := hid (by refine ⟨fun h => ?_, ?_, ?_⟩; have := HP4.out.lt _ h; omega; have := HG4.out.size; omega; exact HQ5.out.lt)
      have HC5 := hid (HC4.out.chg (Chg.new hal5 NoFp) (fun h => h))
      have HT5 := hid (HT4.out.chg (Chg.new hal5 NoFp) (fun h => h))
      have HG5 := hid (HG4.out.trans (Chg.new hal5 NoFp) (fun _ _ h => h.elim))
      have HP5 := hid (HP4.out.new' hal5)
      have hsz5 : t5 + 1 ≤ w5.heap.size := Nat.le_trans hsz4 hal5.size
      have HO5 := hid (HO4.out.new hal5)
      clear hal5 hw5 hq5
      refine hK _ _ (fun _ => ⟨HC5.out, HT5.out⟩) ?_
      clear hK K
      refine wpPlan3_list rfl rfl rfl (fun K hK => ?_)
      refine wpList_step (fun K2 hK2 => ?_)
      go_simp
      refine (HP5.out.put (at_ : Int) _ (enc nd) HO5.out (by rw [enc_length]; omega) (by omega)).mono ?_
      rw [HPUT.out]
      rintro e6 w6 ⟨rfl, F6, N6, hv6, hN6, hc6, hF6⟩
      go_simp
      refine hK2 _ _ ?_
      clear hK2 K2
      simp only [wpList]
      have HC6 := hid (HC5.out.chg hc6 HCF.out)
      have HT6 := hid (HT5.out.chg hc6 (fun h => by have := HPG.out.lt _ h; omega))
      have HG6 := hid (HG5.out.trans hc6 (fun _ _ h => h))
      have HP6 := hid hv6
      have HF6 : Hid (∀ k, F6 k → F k ∨ w.heap.size ≤ k) := hid (fun k h => by rcases hF6 k h with h2 | h2; exact .inl h2; have := HG5.out.size; exact .inr (by omega))
      have hNN6 : N6 ≤ N + 1 := by omega
      have hsz6 : t5 + 1 ≤ w6.heap.size := Nat.le_trans hsz5 hc6.size
      have HQ6 := hid (HQ5.out.chg hc6 hqF5.out.1)
      have hqF6 : Hid (¬ F6 q5 ∧ w.heap.size ≤ q5 ∧ q5 < w6.heap.size) := hid (by refine ⟨fun h => ?_, hqF5.out.2.1, Nat.lt_of_lt_of_le hqF5.out.2.2 hc6.size⟩; rcases hF6 _ h with h2 | h2; exact hqF5.out.1 h2; have := hqF5.out.2.2; omega)
      clear hv6 hN6 hF6 hc6
      refine hK _ _ (fun _ => ⟨HC6.out, HT6.out⟩) ?_
      clear hK K
      (apply wpPlan3_val; (case ho => rfl); (case hst => rfl); (case hw => rfl); (case hv => intro w' hS; go_simp; first | done | rfl); intro K hK; go_simp; refine hK _ ?_; clear hK K)
      (apply wpPlan3_val; (case ho => rfl); (case hst => rfl); (case hw => rfl); (case hv => intro w' hS; go_simp; first | done | rfl); intro K hK; go_simp; refine hK _ ?_; clear hK K)
      refine wpPlan3_nil ?_
      simp only [Qn]
      go_wp2_with fail
      go_ret2
      exact ⟨T2, ⟨q5, F6, N6, rfl, HQ6.out, HP6.out, hNN6, HG6.out, HF6.out, hqF6.out.1, hqF6.out.2.1⟩, HFIN.out⟩
    · refine effect_list rfl rfl (fun K hK => ?_)
      refine wpList_step (fun K2 hK2 => ?_)
      go_simp
      refine (HP4.out.put (at_ : Int) _ (enc nd) HO4.out (by rw [enc_length]; omega) (by omega)).mono ?_
      rw [HPUT.out]
      rintro e7 w7 ⟨rfl, F7, N7, hv7, hN7, hc7, hF7⟩
      go_simp
      refine hK2 _ _ ?_
      clear hK2 K2
      simp only [wpList]
      have HC7 := hid (HC4.out.chg hc7 HCF.out)
      have HT7 := hid (HT4.out.chg hc7 (fun h => by have := HPG.out.lt _ h; omega))
      have HG7 := hid (HG4.out.trans hc7 (fun _ _ h => h))
      have HP7 := hid hv7
      have HF7 : Hid (∀ k, F7 k → F k ∨ w.heap.size ≤ k) := hid (fun k h => by rcases hF7 k h with h2 | h2; exact .inl h2; have := HG4.out.size; exact .inr (by omega))
      have hNN7 : N7 ≤ N + 1 := by omega
      have hsz7 : t5 + 1 ≤ w7.heap.size := Nat.le_trans hsz4 hc7.size
      clear hv7 hN7 hF7 hc7
      refine hK _ _ (fun _ => ⟨HC7.out, HT7.out⟩) ?_
      clear hK K
      refine wpPlan3_list rfl rfl rfl (fun K hK => ?_)
      refine wpList_step (fun K2 hK2 => ?_)
      go_simp
      refine hK2 _ _ ?_
      clear hK2 K2
      simp only [wpList]
      have hal8 : Below w7.heap.size w7 (w7.alloc (.cells #[.int .i64 (at_ : Int), .string ⟨#[]⟩] 116)) := (Below.refl _ _).alloc (Nat.le_refl _) _
      obtain ⟨q8, hq8⟩ : ∃ b, w7.heap.size = b := ⟨_, rfl⟩
      obtain ⟨w8, hw8⟩ : ∃ x, w7.alloc (.cells #[.int .i64 (at_ : Int), .string ⟨#[]⟩] 116) = x := ⟨_, rfl⟩
      have HQ8 : Hid (Blk w8 q8 (ptV [(at_, [])]) TPt) := hid (by rw [← hw8, ← hq8]; exact heap_alloc_new _ _)
      rw [hw8] at hal8 ⊢
      rw [hq8]
      have hqF8 : Hid (¬ F7 q8 ∧ w.heap.size ≤ q8 ∧ q8 < w8.heap.size) := hid (by refine ⟨fun h => ?_, ?_, ?_⟩; have := HP7.out.lt _ h; omega; have := HG7.out.size; omega; exact HQ8.out.lt)
      have HC8 := hid (HC7.out.chg (Chg.new hal8 NoFp) (fun h => h))
      have HT8 := hid (HT7.out.chg (Chg.new hal8 NoFp) (fun h => h))
      have HG8 := hid (HG7.out.trans (Chg.new hal8 NoFp) (fun _ _ h => h.elim))
      have HP8 := hid (HP7.out.new' hal8)
      have hsz8 : t5 + 1 ≤ w8.heap.size := Nat.le_trans hsz7 hal8.size
      clear hal8 hw8 hq8
      refine hK _ _ (fun _ => ⟨HC8.out, HT8.out⟩) ?_
      clear hK K
      (apply wpPlan3_val; (case ho => rfl); (case hst => rfl); (case hw => rfl); (case hv => intro w' hS; go_simp; first | done | rfl); intro K hK; go_simp; refine hK _ ?_; clear hK K)
      (apply wpPlan3_val; (case ho => rfl); (case hst => rfl); (case hw => rfl); (case hv => intro w' hS; go_simp; first | done | rfl); intro K hK; go_simp; refine hK _ ?_; clear hK K)
      refine wpPlan3_nil ?_
      simp only [Qn]
      go_wp2_with fail
      go_ret2
      exact ⟨T2, ⟨q8, F7, N7, rfl, HQ8.out, HP8.out, hNN7, HG8.out, HF7.out, hqF8.out.1, hqF8.out.2.1⟩, HFIN.out⟩
end Go.Proofs.Ytdilkgcoecipjaa
