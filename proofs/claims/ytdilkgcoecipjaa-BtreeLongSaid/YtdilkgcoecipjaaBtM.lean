/- walks through trees: plain laws. -/
import Derived.Test.YtdilkgcoecipjaaBtQ
namespace Go.Proofs.Ytdilkgcoecipjaa
set_option linter.unusedVariables false

theorem take_take_app {α : Type} (x y : List α) (m : Nat) : ((x.take m) ++ y).take m = (x ++ y).take m := by
  by_cases h : x.length ≤ m
  · rw [List.take_of_length_le h]
  · rw [List.take_append_of_le_length (by rw [List.length_take]; omega), List.take_append_of_le_length (by omega), List.take_take, Nat.min_self]
theorem take_full {α : Type} (x y : List α) (m : Nat) (h : m ≤ (x.take m).length) : (x ++ y).take m = x.take m := by
  rw [List.length_take] at h
  rw [List.take_append_of_le_length (by omega)]
theorem rngM_app (a b : List En) (f t : Tx) : rngM (a ++ b) f t = rngM a f t ++ rngM b f t := List.filter_append ..
theorem rngM_low {l : List En} {f t : Tx} (h : ∀ e ∈ l, ltB e.1 f = true) : rngM l f t = [] := by
  unfold rngM
  rw [List.filter_eq_nil_iff]
  intro e he
  simp [inR, h e he]
theorem rngM_high {l : List En} {f t : Tx} (ht : t ≠ []) (h : ∀ e ∈ l, ltB e.1 t = false) : rngM l f t = [] := by
  unfold rngM
  rw [List.filter_eq_nil_iff]
  intro e he
  simp [inR, h e he, ht]
theorem rngM_all (l : List En) : rngM l [] [] = l := by
  unfold rngM
  rw [List.filter_eq_self]
  intro e he
  simp [inR, ltB_nil]
/-- the tokens of the kids from one on -/
def flK {α : Type} (tk : α → List Tok) : List α → List Tx → List Tok
  | [], _ => []
  | k :: ks, [] => tk k
  | k :: ks, s :: ss => tk k ++ sep s :: flK tk ks ss
theorem fl_flK {α : Type} (tk : α → List Tok) : ∀ (l : List (Tx × α)) (t : α), fl tk (t, l) = flK tk (kidsR (t, l)) (keysR (t, l))
  | [], t => by simp [fl, flK, kidsR, keysR]
  | x :: l, t => by rw [fl_cons, fl_flK tk l x.2]; rfl
theorem flK_drop {α : Type} (tk : α → List Tok) : ∀ (ks : List α) (ss : List Tx) (i : Nat), ks.length = ss.length + 1 → i < ks.length →
    ∃ P, flK tk ks ss = P ++ flK tk (ks.drop i) (ss.drop i) ∧ ((i = 0 ∧ P = []) ∨ ∃ P' k, P = P' ++ [sep k] ∧ 0 < i ∧ ss[i - 1]? = some k)
  | ks, ss, 0, _, _ => ⟨[], rfl, .inl ⟨rfl, rfl⟩⟩
  | [], ss, i + 1, h, hi => by simp at hi
  | k :: ks, [], i + 1, h, hi => by simp at h; subst h; simp at hi
  | k :: ks, s :: ss, i + 1, h, hi => by
    obtain ⟨P, h1, h2⟩ := flK_drop tk ks ss i (by simpa using h) (by simpa using hi)
    refine ⟨tk k ++ sep s :: P, by rw [flK, h1]; simp, .inr ?_⟩
    rcases h2 with ⟨rfl, rfl⟩ | ⟨P', k', rfl, h3, h4⟩
    · exact ⟨tk k, s, rfl, by omega, rfl⟩
    · obtain ⟨j, rfl⟩ : ∃ j, i = j + 1 := ⟨i - 1, by omega⟩
      exact ⟨tk k ++ sep s :: P', k', by simp, by omega, by simpa using h4⟩
theorem flK_cons {α : Type} (tk : α → List Tok) {ks : List α} {ss : List Tx} (h : ks.length = ss.length + 1) {i : Nat} {k : α} (hi : ks[i]? = some k) :
    (i + 1 = ks.length ∧ flK tk (ks.drop i) (ss.drop i) = tk k) ∨ ∃ s, ss[i]? = some s ∧ i + 1 < ks.length ∧ flK tk (ks.drop i) (ss.drop i) = tk k ++ sep s :: flK tk (ks.drop (i + 1)) (ss.drop (i + 1)) := by
  obtain ⟨hl, rfl⟩ := List.getElem?_eq_some_iff.1 hi
  rw [List.drop_eq_getElem_cons hl]
  by_cases he : i + 1 = ks.length
  · refine .inl ⟨he, ?_⟩
    rw [List.drop_eq_nil_of_le (show ss.length ≤ i by omega)]
    rfl
  · have hs : i < ss.length := by omega
    refine .inr ⟨ss[i], List.getElem?_eq_getElem hs, by omega, ?_⟩
    rw [List.drop_eq_getElem_cons hs]
    rfl
theorem asc_keys {α : Type} (tk : α → List Tok) : ∀ (l : List (Tx × α)) (t : α), Asc (fl tk (t, l)) → (keysR (t, l)).Pairwise (fun a b => ltB a b = true)
  | [], t, _ => List.Pairwise.nil
  | x :: l, t, h => by
    rw [fl_cons] at h
    have h2 := (asc_app.1 h).2.1
    have h3 := asc_cons.1 h2
    refine List.pairwise_cons.2 ⟨fun b hb => ?_, asc_keys tk l x.2 h3.2⟩
    have hm : sep b ∈ fl tk (x.2, l) := by
      obtain ⟨y, hy, rfl⟩ := List.mem_map.1 hb
      exact List.mem_append_right _ (List.mem_flatMap.2 ⟨y, hy, List.mem_cons_self ..⟩)
    exact Tok.lt_ss (h3.1 _ hm) rfl
/-- a kid's tokens are in order -/
theorem asc_kid {α : Type} (tk : α → List Tok) {t : α} {l : List (Tx × α)} (h : Asc (fl tk (t, l))) {c : α} (hc : c ∈ kidsR (t, l)) : Asc (tk c) := by
  obtain ⟨i, hi⟩ := List.mem_iff_getElem?.1 hc
  obtain ⟨P, Q, h1, _⟩ := row_at tk t l i c hi
  rw [h1] at h
  exact (asc_app.1 (asc_app.1 h).1).2.1
/-- what a key's kid has ahead of it is less, and behind it is greater -/
theorem down_split {α : Type} (tk : α → List Tok) {t : α} {l : List (Tx × α)} (h : Asc (fl tk (t, l))) {key : Tx} {c : α} (hc : (kidsR (t, l))[downP (keysR (t, l)) key]? = some c) :
    ∃ P Q, fl tk (t, l) = P ++ tk c ++ Q ∧ (∀ r, fl tk (rput t l (downP (keysR (t, l)) key) r) = P ++ fl tk r ++ Q) ∧ (∀ x ∈ P, ∀ y : Tok, y = ent (key, []) → x.lt y) ∧ (∀ x ∈ Q, ltB key x.k = true) ∧
      ((downP (keysR (t, l)) key = 0 ∧ P = []) ∨ ∃ P' k, P = P' ++ [sep k] ∧ ltB key k = false) := by
  have hk := asc_keys tk l t h
  obtain ⟨P, Q, h1, h2, h3, h4⟩ := row_at tk t l _ c hc
  rw [h1] at h
  obtain ⟨a1, a2, a3⟩ := asc_app.1 h
  obtain ⟨a4, a5, a6⟩ := asc_app.1 a1
  have hlow : ∀ i k, (keysR (t, l))[i]? = some k → i < downP (keysR (t, l)) key → ltB key k = false := by
    intro i k hi hlt
    obtain ⟨hil, rfl⟩ := List.getElem?_eq_some_iff.1 hi
    unfold downP at hlt
    split at hlt
    · rename_i hs
      rcases Nat.lt_or_ge i (rk (keysR (t, l)) key) with h5 | h5
      · exact ltB_asym (rk_lt _ _ _ hil h5)
      · obtain rfl : i = rk (keysR (t, l)) key := by omega
        rw [isAt_eq hs, ltB_irr]
    · exact ltB_asym (rk_lt _ _ _ hil hlt)
  have hhigh : ∀ k, (keysR (t, l))[downP (keysR (t, l)) key]? = some k → ltB key k = true := by
    intro k hi
    obtain ⟨hil, rfl⟩ := List.getElem?_eq_some_iff.1 hi
    by_cases hs : isAt (keysR (t, l)) key = true
    · have e : downP (keysR (t, l)) key = rk (keysR (t, l)) key + 1 := if_pos hs
      have h6 := List.pairwise_iff_getElem.1 hk (rk (keysR (t, l)) key) (rk (keysR (t, l)) key + 1) (isAt_lt hs) (by rw [← e]; exact hil) (by omega)
      rw [isAt_eq hs] at h6
      simpa only [e] using h6
    · have e : downP (keysR (t, l)) key = rk (keysR (t, l)) key := if_neg hs
      have h6 := rk_at (keysR (t, l)) key (by rw [← e]; exact hil)
      simp only [e]
      cases hc2 : ltB key (keysR (t, l))[rk (keysR (t, l)) key] with
      | true => rfl
      | false =>
        exfalso
        apply hs
        unfold isAt
        rw [List.getElem?_eq_getElem (by rw [← e]; exact hil)]
        exact beq_iff_eq.2 (congrArg some (ltB_tri hc2 h6).symm)
  refine ⟨P, Q, h1, h2, ?_, ?_, ?_⟩
  · intro x hx y hy
    subst hy
    rcases h3 with ⟨h5, rfl⟩ | ⟨P', k, rfl, h5, h6⟩
    · cases hx
    · have h7 := hlow _ k h6 (by omega)
      rcases List.mem_append.1 hx with hx | hx
      · have h8 := (asc_app.1 a4).2.2 x hx (sep k) (List.mem_singleton_self _)
        exact .inl (ltB_lt_le (Tok.lt_ss h8 rfl) h7)
      · rw [List.mem_singleton.1 hx]
        cases h9 : ltB k key with
        | true => exact .inl h9
        | false => exact .inr ⟨ltB_tri h9 h7, rfl, by simp⟩
  · intro x hx
    rcases h4 with ⟨h5, rfl⟩ | ⟨Q', k, rfl, h5⟩
    · cases hx
    · have h7 := hhigh k h5
      rcases List.mem_cons.1 hx with rfl | hx
      · exact h7
      · have h8 := (asc_cons.1 a2).1 x hx
        exact ltB_lt_le h7 (Tok.lt_le h8)
  · rcases h3 with ⟨h5, rfl⟩ | ⟨P', k, rfl, h5, h6⟩
    · exact .inl ⟨h5, rfl⟩
    · exact .inr ⟨P', k, rfl, hlow _ k h6 (by omega)⟩
end Go.Proofs.Ytdilkgcoecipjaa
