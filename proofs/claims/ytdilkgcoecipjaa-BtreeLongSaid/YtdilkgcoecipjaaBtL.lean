/- walks through a row of kids: plain laws. -/
import Derived.Test.YtdilkgcoecipjaaBtM
namespace Go.Proofs.Ytdilkgcoecipjaa
set_option linter.unusedVariables false

section
variable {α : Type} (tk : α → List Tok) {t : α} {l : List (Tx × α)}
theorem down_low {t : α} {l : List (Tx × α)} {key : Tx} {i : Nat} {k : Tx} (hi : (keysR (t, l))[i]? = some k) (hlt : i < downP (keysR (t, l)) key) : ltB key k = false := by
  obtain ⟨hil, rfl⟩ := List.getElem?_eq_some_iff.1 hi
  unfold downP at hlt
  split at hlt
  · rename_i hs
    rcases Nat.lt_or_ge i (rk (keysR (t, l)) key) with h5 | h5
    · exact ltB_asym (rk_lt _ _ _ hil h5)
    · obtain rfl : i = rk (keysR (t, l)) key := by omega
      rw [isAt_eq hs, ltB_irr]
  · exact ltB_asym (rk_lt _ _ _ hil hlt)
theorem flK_low (h : Asc (fl tk (t, l))) (fr to : Tx) :
    rngM (ents (fl tk (t, l))) fr to = rngM (ents (flK tk ((kidsR (t, l)).drop (downP (keysR (t, l)) fr)) ((keysR (t, l)).drop (downP (keysR (t, l)) fr)))) fr to ∧
    (ents (flK tk ((kidsR (t, l)).drop (downP (keysR (t, l)) fr)) ((keysR (t, l)).drop (downP (keysR (t, l)) fr)))).length ≤ (ents (fl tk (t, l))).length := by
  have hd := downP_le (keysR (t, l)) fr
  obtain ⟨P, h1, h2⟩ := flK_drop tk (kidsR (t, l)) (keysR (t, l)) (downP (keysR (t, l)) fr) (kidsR_length _) (by rw [kidsR_length]; omega)
  rw [fl_flK] at h ⊢
  rw [h1] at h
  have hP : rngM (ents P) fr to = [] := by
    refine rngM_low (fun e he => ?_)
    rcases h2 with ⟨_, rfl⟩ | ⟨P', k, rfl, h3, h4⟩
    · cases he
    · rw [ents_app, ents_sep, ents_nil, List.append_nil] at he
      have h5 := (asc_app.1 (asc_app.1 h).1).2.2 _ (mem_ents he) (sep k) (List.mem_singleton_self _)
      exact ltB_lt_le (Tok.lt_ss h5 rfl) (down_low h4 (by omega))
  constructor
  · conv => lhs; rw [h1]
    rw [ents_app, rngM_app, hP, List.nil_append]
  · conv => rhs; rw [h1]
    rw [ents_app, List.length_append]; omega
theorem flK_stop (h : Asc (fl tk (t, l))) {i : Nat} (hi0 : 0 < i) (hi : i < (kidsR (t, l)).length) {k : Tx} (hk : (keysR (t, l))[i - 1]? = some k) {fr to : Tx} (ht : to ≠ []) (hkt : ltB k to = false) :
    rngM (ents (flK tk ((kidsR (t, l)).drop i) ((keysR (t, l)).drop i))) fr to = [] := by
  obtain ⟨P, h1, h2⟩ := flK_drop tk (kidsR (t, l)) (keysR (t, l)) i (kidsR_length _) hi
  rw [fl_flK, h1] at h
  refine rngM_high ht (fun e he => ?_)
  rcases h2 with ⟨h0, _⟩ | ⟨P', k', rfl, h3, h4⟩
  · omega
  · rw [hk] at h4
    cases h4
    have h5 := (asc_app.1 h).2.2 (sep k) (List.mem_append_right _ (List.mem_singleton_self _)) _ (mem_ents he)
    exact ltB_le_trans hkt (Tok.lt_le h5)
theorem flK_step (h : Asc (fl tk (t, l))) {i : Nat} {c : α} (hc : (kidsR (t, l))[i]? = some c) :
    ents (flK tk ((kidsR (t, l)).drop i) ((keysR (t, l)).drop i)) = ents (tk c) ++ ents (flK tk ((kidsR (t, l)).drop (i + 1)) ((keysR (t, l)).drop (i + 1))) ∧
    (∀ e ∈ ents (tk c), ∀ f ∈ ents (flK tk ((kidsR (t, l)).drop (i + 1)) ((keysR (t, l)).drop (i + 1))), ltB e.1 f.1 = true) := by
  have hil := (List.getElem?_eq_some_iff.1 hc).1
  obtain ⟨P, h1, _⟩ := flK_drop tk (kidsR (t, l)) (keysR (t, l)) i (kidsR_length _) hil
  rw [fl_flK, h1] at h
  have h2 := (asc_app.1 h).2.1
  rcases flK_cons tk (kidsR_length (t, l)) hc with ⟨h3, h4⟩ | ⟨s, h3, h5, h4⟩
  · rw [List.drop_eq_nil_of_le (show (kidsR (t, l)).length ≤ i + 1 by omega)]
    rw [h4]
    exact ⟨by simp [flK, ents_nil], fun e _ f hf => by cases hf⟩
  · rw [h4] at h2 ⊢
    refine ⟨by rw [ents_app, ents_sep], fun e he f hf => ?_⟩
    have h6 := (asc_app.1 h2).2.2 _ (mem_ents he) _ (List.mem_cons_of_mem _ (mem_ents hf))
    exact Tok.lt_ee h6 (by simp)
end
theorem down_nil {keys : List Tx} (h : ∀ k ∈ keys, k ≠ []) : downP keys [] = 0 := by
  have h0 : rk keys [] = 0 := by
    cases keys with
    | nil => rfl
    | cons k r => rw [rk, if_neg (by rw [ltB_nil]; simp)]
  have h1 : isAt keys [] = false := by
    unfold isAt
    rw [h0]
    cases keys with
    | nil => rfl
    | cons k r => simpa using h k (List.mem_cons_self ..)
  unfold downP
  rw [h1, h0]
  rfl
/-- a full tree's first kid has an entry, so no key between kids is empty -/
theorem keys_ne {d : Nat} {t : Tr (d + 1)} (h : Asc (toks (d + 1) t)) (hf : Ful (d + 1) t) : ∀ k ∈ keysR t.2, k ≠ [] := by
  obtain ⟨pg, t0, l⟩ := t
  have hc := ful_count d t0 (hf.2 t0 (List.mem_cons_self ..))
  have hpos : 0 < (ents (toks d t0)).length := by have := hc.1; omega
  obtain ⟨e, he⟩ := List.exists_mem_of_length_pos hpos
  intro k hk h0
  have h : Asc (toks d t0 ++ l.flatMap (fun x => sep x.1 :: toks d x.2)) := h
  obtain ⟨x, hx, rfl⟩ := List.mem_map.1 hk
  have h2 := (asc_app.1 h).2.2 _ (mem_ents he) (sep x.1) (List.mem_flatMap.2 ⟨x, hx, List.mem_cons_self ..⟩)
  have h3 := Tok.lt_ss h2 rfl
  rw [show (sep x.1).k = [] from h0, ltB_nil] at h3
  cases h3
end Go.Proofs.Ytdilkgcoecipjaa
