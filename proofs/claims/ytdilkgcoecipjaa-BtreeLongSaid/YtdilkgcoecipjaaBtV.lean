/- pages in use as nodes: what New, Put and Drop do to them. -/
import Derived.Test.YtdilkgcoecipjaaBtG
namespace Go.Proofs.Ytdilkgcoecipjaa
open Go.RowKit Go.Maps
set_option linter.unusedVariables false

/-- pages in use are nodes, U of them; the page x may be none yet -/
structure Sto (T : AS) (Nf : Nat → Option Nd) (U M : Nat) (x : Option Nat) : Prop where
  vw : Vw T Nf
  used : ∀ k : Int, (T.B k).isSome = true → ∃ j : Nat, k = (j : Int) ∧ ((Nf j).isSome = true ∨ x = some j)
  ever : T.ever = (T.gone.length : Int) + (U : Int)
  lim : T.ever ≤ (M : Int)
  gone : ∀ g ∈ T.gone, 1 ≤ g ∧ g ≤ T.ever ∧ T.B g = none
  bd : ∀ k l, T.B k = some l → 1 ≤ k ∧ k ≤ T.ever
  nodup : T.gone.Nodup
  ev0 : 0 ≤ T.ever
def updN (Nf : Nat → Option Nd) (k : Nat) (o : Option Nd) : Nat → Option Nd := fun j => if j = k then o else Nf j
theorem updN_same (Nf : Nat → Option Nd) (k : Nat) (o : Option Nd) : updN Nf k o k = o := if_pos rfl
theorem updN_other {Nf : Nat → Option Nd} {k j : Nat} {o : Option Nd} (h : j ≠ k) : updN Nf k o j = Nf j := if_neg h
theorem PgV.abs {w : World} {p d : Nat} {F : Nat → Prop} {n : Nat} {s : DS} {S T : AS} {op : Bool} {N : Nat} (h : PgV w p d F n s S T op N) :
    (∀ g ∈ T.gone, 1 ≤ g ∧ g ≤ T.ever ∧ T.B g = none) ∧ (∀ k l, T.B k = some l → 1 ≤ k ∧ k ≤ T.ever) ∧ T.gone.Nodup ∧ 0 ≤ T.ever := by
  obtain ⟨was, now, ch, h1, h2, h3, h4, h5⟩ := h
  exact ⟨h4.gbd, h4.bd, h4.nodup, h4.ev0⟩
theorem sto_zero (M : Nat) : Sto as0 (fun _ => none) 0 M none :=
  ⟨fun k nd h => (by cases h), fun k h => (by cases h), rfl, by simp [as0], fun g h => (by cases h), fun k l h => (by cases h), List.nodup_nil, by simp [as0]⟩
theorem Sto.new {T : AS} {Nf : Nat → Option Nd} {U M : Nat} (h : Sto T Nf U M none) (hM : M ≤ 1190) (hU : U + 1 ≤ M) :
    ∃ (k : Nat) (T2 : AS), newO 1600 true T = ((k : Int), 0, T2) ∧ Nf k = none ∧ k < 65536 ∧ Sto T2 Nf (U + 1) M (some k) ∧ (T2.B (k : Int)).isSome = true ∧ T2.root = T.root := by
  have hnone : ∀ k : Nat, T.B (k : Int) = none → Nf k = none := fun k hk => by
    cases hn : Nf k with
    | none => rfl
    | some nd => have := (h.vw k nd hn).1; rw [hk] at this; cases this
  rw [show newO 1600 true T = newA 1600 T from if_neg (by simp)]
  have hev := h.ever
  have hlim := h.lim
  have hev0 := h.ev0
  unfold newA
  rcases hg : T.gone with _ | ⟨g, gs⟩
  · rw [hg] at hev
    simp only [List.length_nil] at hev
    simp only
    rw [if_pos (by omega)]
    obtain ⟨k, hk⟩ : ∃ k : Nat, T.ever + 1 = (k : Int) := ⟨(T.ever + 1).toNat, by omega⟩
    have hB : T.B (k : Int) = none := by
      cases hb : T.B (k : Int) with
      | none => rfl
      | some l => have := (h.bd _ _ hb).2; omega
    have hS : ∀ q : Int, ((({ B := T.B, gone := [], ever := T.ever + 1, root := T.root } : AS).set (T.ever + 1) (some (pad504 []))).B q) = if q = (k : Int) then some (pad504 []) else T.B q := fun q => by rw [hk]; rfl
    refine ⟨k, ({ B := T.B, gone := [], ever := T.ever + 1, root := T.root } : AS).set (T.ever + 1) (some (pad504 [])), by rw [hk], hnone k hB, by omega, ⟨?_, ?_, ?_, ?_, ?_, ?_, ?_, ?_⟩, ?_, rfl⟩
    · intro j nd hj
      obtain ⟨a, b⟩ := h.vw j nd hj
      refine ⟨?_, b⟩
      rw [hS, if_neg (fun e => by rw [e, hB] at a; cases a)]
      exact a
    · intro q hq
      rw [hS] at hq
      by_cases e : q = (k : Int)
      · exact ⟨k, e, .inr rfl⟩
      · rw [if_neg e] at hq
        obtain ⟨j, hj, hj2⟩ := h.used q hq
        exact ⟨j, hj, hj2.imp id (fun h => by cases h)⟩
    · show T.ever + 1 = ((([] : List Int).length : Nat) : Int) + ((U + 1 : Nat) : Int)
      simp only [List.length_nil]; omega
    · show T.ever + 1 ≤ (M : Int)
      omega
    · intro x hx
      have hx : x ∈ ([] : List Int) := hx
      cases hx
    · intro q l hq
      rw [hS] at hq
      show 1 ≤ q ∧ q ≤ T.ever + 1
      by_cases e : q = (k : Int)
      · omega
      · rw [if_neg e] at hq
        have := h.bd q l hq; omega
    · exact List.nodup_nil
    · show 0 ≤ T.ever + 1
      omega
    · rw [hS, if_pos rfl]; rfl
  · have hgb := h.gone g (by rw [hg]; exact List.mem_cons_self ..)
    simp only
    obtain ⟨k, hk⟩ : ∃ k : Nat, g = (k : Int) := ⟨g.toNat, by omega⟩
    subst hk
    have hS : ∀ q : Int, (({ T with gone := gs }.set (k : Int) (some (pad504 [])) : AS).B q) = if q = (k : Int) then some (pad504 []) else T.B q := fun q => rfl
    have hnd := h.nodup
    rw [hg] at hnd hev
    have hnd2 := List.nodup_cons.1 hnd
    simp only [List.length_cons] at hev
    refine ⟨k, _, rfl, hnone k hgb.2.2, by omega, ⟨?_, ?_, ?_, ?_, ?_, ?_, ?_, ?_⟩, ?_, rfl⟩
    · intro j nd hj
      obtain ⟨a, b⟩ := h.vw j nd hj
      refine ⟨?_, b⟩
      rw [hS, if_neg (fun e => by rw [e, hgb.2.2] at a; cases a)]
      exact a
    · intro q hq
      rw [hS] at hq
      by_cases e : q = (k : Int)
      · exact ⟨k, e, .inr rfl⟩
      · rw [if_neg e] at hq
        obtain ⟨j, hj, hj2⟩ := h.used q hq
        exact ⟨j, hj, hj2.imp id (fun h => by cases h)⟩
    · show T.ever = ((gs.length : Nat) : Int) + ((U + 1 : Nat) : Int)
      omega
    · exact hlim
    · intro x hx
      have hx : x ∈ gs := hx
      have h1 := h.gone x (by rw [hg]; exact List.mem_cons_of_mem _ hx)
      refine ⟨h1.1, h1.2.1, ?_⟩
      rw [hS, if_neg (fun e => hnd2.1 (by rw [← e]; exact hx))]
      exact h1.2.2
    · intro q l hq
      rw [hS] at hq
      show 1 ≤ q ∧ q ≤ T.ever
      by_cases e : q = (k : Int)
      · omega
      · rw [if_neg e] at hq
        exact h.bd q l hq
    · exact hnd2.2
    · exact hev0
    · rw [hS, if_pos rfl]; rfl
theorem Sto.put {T : AS} {Nf : Nat → Option Nd} {U M : Nat} {x : Option Nat} {k : Nat} (h : Sto T Nf U M x) (hx : x = none ∨ x = some k) (hk : (T.B (k : Int)).isSome = true) (nd : Nd) (hok : OkN nd) (hs : sizeP nd ≤ 504) (hk6 : k < 65536) :
    ∃ T2 : AS, putO true T (k : Int) (enc nd) = (0, T2) ∧ Sto T2 (updN Nf k (some nd)) U M none ∧ T2.root = T.root ∧ T2.B = (T.set (k : Int) (some (pad504 (enc nd)))).B := by
  rw [show putO true T (k : Int) (enc nd) = putA T (k : Int) (enc nd) from if_neg (by simp)]
  unfold putA
  rw [if_pos hk, if_neg (by rw [enc_length]; omega)]
  have hS : ∀ q : Int, ((T.set (k : Int) (some (pad504 (enc nd)))).B q) = if q = (k : Int) then some (pad504 (enc nd)) else T.B q := fun q => rfl
  obtain ⟨l0, hl0⟩ := Option.isSome_iff_exists.1 hk
  have hkb := h.bd _ _ hl0
  refine ⟨_, rfl, ⟨?_, ?_, h.ever, h.lim, ?_, ?_, h.nodup, h.ev0⟩, rfl, rfl⟩
  · intro j m hj
    unfold updN at hj
    by_cases e : j = k
    · rw [if_pos e] at hj
      cases hj
      subst e
      exact ⟨by rw [hS, if_pos rfl], hok, hs, hk6⟩
    · rw [if_neg e] at hj
      obtain ⟨a, b⟩ := h.vw j m hj
      exact ⟨by rw [hS, if_neg (by omega)]; exact a, b⟩
  · intro q hq
    rw [hS] at hq
    by_cases e : q = (k : Int)
    · exact ⟨k, e, .inl (by rw [updN_same]; rfl)⟩
    · rw [if_neg e] at hq
      obtain ⟨j, hj, hj2⟩ := h.used q hq
      have hjk : j ≠ k := fun h2 => e (by rw [hj, h2])
      refine ⟨j, hj, .inl ?_⟩
      rw [updN_other hjk]
      rcases hj2 with h2 | h2
      · exact h2
      · rcases hx with h3 | h3
        · rw [h3] at h2; cases h2
        · rw [h3] at h2; cases h2; exact absurd rfl hjk
  · intro g hg
    have h1 := h.gone g hg
    refine ⟨h1.1, h1.2.1, ?_⟩
    rw [hS, if_neg (fun e => by rw [e, hl0] at h1; cases h1.2.2)]
    exact h1.2.2
  · intro q l hq
    rw [hS] at hq
    by_cases e : q = (k : Int)
    · rw [e]; exact hkb
    · rw [if_neg e] at hq; exact h.bd q l hq
theorem nodup_len : ∀ {us l : List Int}, us.Nodup → (∀ k ∈ us, k ∈ l) → us.length ≤ l.length
  | [], _, _, _ => Nat.zero_le _
  | a :: us, l, hn, h => by
    have hn2 := List.nodup_cons.1 hn
    have h1 := nodup_len (us := us) (l := l.erase a) hn2.2 (fun k hk => (List.mem_erase_of_ne (fun e => by subst e; exact hn2.1 hk)).2 (h k (List.mem_cons_of_mem _ hk)))
    have h2 := List.length_erase_of_mem (h a (List.mem_cons_self ..))
    have h3 := List.length_pos_of_mem (h a (List.mem_cons_self ..))
    rw [List.length_cons]; omega
theorem Sto.drop {T : AS} {Nf : Nat → Option Nd} {U M : Nat} {k : Nat} {nd : Nd} (h : Sto T Nf U M none) (hk : Nf k = some nd) :
    ∃ T2 : AS, dropO true T (k : Int) = (0, T2) ∧ Sto T2 (updN Nf k none) (U - 1) M none ∧ 1 ≤ U ∧ T2.root = T.root := by
  rw [show dropO true T (k : Int) = dropA T (k : Int) from if_neg (by simp)]
  obtain ⟨hB, _⟩ := h.vw k nd hk
  unfold dropA
  rw [if_pos (by rw [hB]; rfl)]
  have hkb := h.bd _ _ hB
  have hS : ∀ q : Int, (({ T with gone := (k : Int) :: T.gone }.set (k : Int) none : AS).B q) = if q = (k : Int) then none else T.B q := fun q => rfl
  have hU : 1 ≤ U := by
    -- the gone ones are distinct numbers from 1 to ever, and k is none of them
    have hlt : T.gone.length < T.ever.toNat := by
      have h1 : ((k : Int) :: T.gone).Nodup := List.nodup_cons.2 ⟨fun hm => (by have := (h.gone _ hm).2.2; rw [hB] at this; cases this), h.nodup⟩
      have h2 : ∀ x ∈ (k : Int) :: T.gone, x ∈ (List.range T.ever.toNat).map (fun i : Nat => (i : Int) + 1) := by
        intro x hx
        have hb : 1 ≤ x ∧ x ≤ T.ever := by
          rcases List.mem_cons.1 hx with rfl | hx
          · exact hkb
          · have := h.gone x hx; exact ⟨this.1, this.2.1⟩
        exact List.mem_map.2 ⟨(x - 1).toNat, List.mem_range.2 (by omega), by omega⟩
      have h3 := nodup_len h1 h2
      rw [List.length_cons, List.length_map, List.length_range] at h3
      omega
    have := h.ever
    omega
  refine ⟨_, rfl, ⟨?_, ?_, ?_, h.lim, ?_, ?_, ?_, h.ev0⟩, hU, rfl⟩
  · intro j m hj
    unfold updN at hj
    by_cases e : j = k
    · rw [if_pos e] at hj; cases hj
    · rw [if_neg e] at hj
      obtain ⟨a, b⟩ := h.vw j m hj
      exact ⟨by rw [hS, if_neg (by omega)]; exact a, b⟩
  · intro q hq
    rw [hS] at hq
    by_cases e : q = (k : Int)
    · rw [if_pos e] at hq; cases hq
    · rw [if_neg e] at hq
      obtain ⟨j, hj, hj2⟩ := h.used q hq
      have hjk : j ≠ k := fun h2 => e (by rw [hj, h2])
      exact ⟨j, hj, .inl (by rw [updN_other hjk]; exact hj2.elim id (fun h => by cases h))⟩
  · show T.ever = ((((k : Int) :: T.gone).length : Nat) : Int) + ((U - 1 : Nat) : Int)
    rw [List.length_cons]
    have := h.ever
    omega
  · intro g hg
    rcases List.mem_cons.1 hg with rfl | hg
    · exact ⟨hkb.1, hkb.2, by rw [hS, if_pos rfl]⟩
    · have h1 := h.gone g hg
      refine ⟨h1.1, h1.2.1, ?_⟩
      rw [hS]
      split
      · rfl
      · exact h1.2.2
  · intro q l hq
    rw [hS] at hq
    by_cases e : q = (k : Int)
    · rw [if_pos e] at hq; cases hq
    · rw [if_neg e] at hq; exact h.bd q l hq
  · exact List.nodup_cons.2 ⟨fun hm => (by have := (h.gone _ hm).2.2; rw [hB] at this; cases this), h.nodup⟩
end Go.Proofs.Ytdilkgcoecipjaa
