/- A sorted map, tokens in order: plain laws. -/
import Derived.Test.YtdilkgcoecipjaaBtT
namespace Go.Proofs.Ytdilkgcoecipjaa
set_option linter.unusedVariables false

abbrev Tx := List UInt8
abbrev En := Tx × Tx

theorem ltB_ne {a b : Tx} (h : ltB a b = true) : a ≠ b := fun e => by subst e; rw [ltB_irr] at h; cases h
theorem ltB_le_lt {a b c : Tx} (h1 : ltB b a = false) (h2 : ltB b c = true) : ltB a c = true := by
  cases h : ltB a c with
  | true => rfl
  | false => rw [ltB_le_trans h h1] at h2; cases h2
theorem ltB_lt_le {a b c : Tx} (h1 : ltB a b = true) (h2 : ltB c b = false) : ltB a c = true := by
  cases h : ltB a c with
  | true => rfl
  | false => rw [ltB_le_trans h2 h] at h1; cases h1

/-- how many keys stand ahead -/
def rk : List Tx → Tx → Nat
  | [], _ => 0
  | k :: r, key => if ltB k key = true then rk r key + 1 else 0
theorem rk_le : ∀ (l : List Tx) (key : Tx), rk l key ≤ l.length
  | [], _ => Nat.le_refl _
  | k :: r, key => by unfold rk; split <;> simp; exact rk_le r key
theorem rk_lt : ∀ (l : List Tx) (key : Tx) (i : Nat) (hi : i < l.length), i < rk l key → ltB l[i] key = true
  | [], _, i, hi, _ => by simp at hi
  | k :: r, key, i, hi, h => by
    unfold rk at h
    split at h
    · rename_i hk
      cases i with
      | zero => exact hk
      | succ i => exact rk_lt r key i (by simpa using hi) (by omega)
    · omega
theorem rk_at : ∀ (l : List Tx) (key : Tx) (hi : rk l key < l.length), ltB (l[rk l key]'hi) key = false
  | [], _, hi => by simp at hi
  | k :: r, key, hi => by
    by_cases hk : ltB k key = true
    · have e : rk (k :: r) key = rk r key + 1 := by rw [rk, if_pos hk]
      simp only [e, List.getElem_cons_succ]
      exact rk_at r key (by rw [e] at hi; simpa using hi)
    · have e : rk (k :: r) key = 0 := by rw [rk, if_neg hk]
      simp only [e, List.getElem_cons_zero]
      simpa using hk
theorem rk_of {l : List Tx} {key : Tx} {n : Nat} (hn : n ≤ l.length) (h1 : ∀ i (hi : i < l.length), i < n → ltB l[i] key = true) (h2 : ∀ hi : n < l.length, ltB l[n] key = false) : rk l key = n := by
  rcases Nat.lt_trichotomy (rk l key) n with h | h | h
  · have := h1 (rk l key) (by omega) h
    rw [rk_at l key (by omega)] at this; cases this
  · exact h
  · have := h2 (by have := rk_le l key; omega)
    rw [rk_lt l key n (by have := rk_le l key; omega) h] at this; cases this
/-- is the key there? -/
def isAt (l : List Tx) (key : Tx) : Bool := l[rk l key]? == some key
def downP (l : List Tx) (key : Tx) : Nat := if isAt l key = true then rk l key + 1 else rk l key
theorem isAt_lt {l : List Tx} {key : Tx} (h : isAt l key = true) : rk l key < l.length := by
  unfold isAt at h
  have h := eq_of_beq h
  exact (List.getElem?_eq_some_iff.1 h).1
theorem isAt_eq {l : List Tx} {key : Tx} (h : isAt l key = true) : l[rk l key]'(isAt_lt h) = key := by
  have h2 : l[rk l key]? = some key := eq_of_beq h
  exact (List.getElem?_eq_some_iff.1 h2).2
theorem downP_le (l : List Tx) (key : Tx) : downP l key ≤ l.length := by
  unfold downP
  split
  · rename_i h; have := isAt_lt h; omega
  · exact rk_le _ _

/-! the map -/
def Srt (l : List En) : Prop := l.Pairwise fun a b => ltB a.1 b.1 = true
def getM : List En → Tx → Option Tx
  | [], _ => none
  | e :: r, key => if e.1 = key then some e.2 else getM r key
def setM : List En → Tx → Tx → List En
  | [], key, val => [(key, val)]
  | e :: r, key, val => if ltB e.1 key = true then e :: setM r key val else if e.1 = key then (key, val) :: r else (key, val) :: e :: r
def delM (l : List En) (key : Tx) : List En := l.filter (fun e => !(e.1 == key))
def inR (from_ to : Tx) (k : Tx) : Bool := !(ltB k from_) && (to == [] || ltB k to)
def rngM (l : List En) (from_ to : Tx) : List En := l.filter (fun e => inR from_ to e.1)

theorem setM_mid {A : List En} (X : List En) {key : Tx} (hA : ∀ e ∈ A, ltB e.1 key = true) (val : Tx) : setM (A ++ X) key val = A ++ setM X key val := by
  induction A with
  | nil => rfl
  | cons a A ih =>
    rw [List.cons_append, setM, if_pos (hA a (List.mem_cons_self ..)), ih (fun e he => hA e (List.mem_cons_of_mem _ he))]
    rfl
theorem setM_end : ∀ (X C : List En) {key : Tx}, (∀ e ∈ C, ltB key e.1 = true) → ∀ val : Tx, setM (X ++ C) key val = setM X key val ++ C
  | [], [], key, hC, val => rfl
  | [], c :: C, key, hC, val => by
    have h := hC c (List.mem_cons_self ..)
    show (if ltB c.1 key = true then c :: setM C key val else if c.1 = key then (key, val) :: C else (key, val) :: c :: C) = _
    rw [if_neg (by rw [ltB_asym h]; simp), if_neg (fun e => ltB_ne h e.symm)]
    rfl
  | x :: X, C, key, hC, val => by
    rw [List.cons_append, setM, setM]
    split
    · rw [setM_end X C hC val]; rfl
    · split <;> rfl
theorem setM_in {A X C : List En} {key : Tx} (hA : ∀ e ∈ A, ltB e.1 key = true) (hC : ∀ e ∈ C, ltB key e.1 = true) (val : Tx) :
    setM (A ++ X ++ C) key val = A ++ setM X key val ++ C := by
  rw [List.append_assoc, setM_mid _ hA, setM_end _ _ hC, List.append_assoc]
theorem delM_none {A : List En} {key : Tx} (h : ∀ e ∈ A, e.1 ≠ key) : delM A key = A := by
  unfold delM
  rw [List.filter_eq_self]
  intro e he
  simpa using h e he
theorem delM_app (A C : List En) (key : Tx) : delM (A ++ C) key = delM A key ++ delM C key := List.filter_append ..
theorem delM_in {A X C : List En} {key : Tx} (hA : ∀ e ∈ A, ltB e.1 key = true) (hC : ∀ e ∈ C, ltB key e.1 = true) :
    delM (A ++ X ++ C) key = A ++ delM X key ++ C := by
  rw [delM_app, delM_app, delM_none (fun e he => ltB_ne (hA e he)), delM_none (A := C) (fun e he h => ltB_ne (hC e he) h.symm)]
theorem getM_app_l {A : List En} (X : List En) {key : Tx} (hA : ∀ e ∈ A, e.1 ≠ key) : getM (A ++ X) key = getM X key := by
  induction A with
  | nil => rfl
  | cons a A ih => rw [List.cons_append, getM, if_neg (hA a (List.mem_cons_self ..)), ih (fun e he => hA e (List.mem_cons_of_mem _ he))]
theorem getM_app_r (X : List En) {C : List En} {key : Tx} (hC : ∀ e ∈ C, e.1 ≠ key) : getM (X ++ C) key = getM X key := by
  induction X with
  | nil =>
    induction C with
    | nil => rfl
    | cons a A ih =>
      show (if a.1 = key then some a.2 else getM A key) = none
      rw [if_neg (hC a (List.mem_cons_self ..))]; exact ih (fun e he => hC e (List.mem_cons_of_mem _ he))
  | cons a A ih => rw [List.cons_append, getM, getM, ih]
theorem getM_in {A X C : List En} {key : Tx} (hA : ∀ e ∈ A, ltB e.1 key = true) (hC : ∀ e ∈ C, ltB key e.1 = true) : getM (A ++ X ++ C) key = getM X key := by
  rw [List.append_assoc, getM_app_l _ (fun e he => ltB_ne (hA e he)), getM_app_r _ (fun e he h => ltB_ne (hC e he) h.symm)]

/-! by the place -/
theorem srt_lt {l : List En} (h : Srt l) {i j : Nat} (hj : j < l.length) (hij : i < j) : ltB l[i].1 l[j].1 = true := List.pairwise_iff_getElem.1 h i j (by omega) hj hij
theorem srt_after {l : List En} (h : Srt l) {key : Tx} : ∀ e ∈ l.drop (rk (l.map (·.1)) key + (if isAt (l.map (·.1)) key = true then 1 else 0)), ltB key e.1 = true := by
  intro e he
  obtain ⟨i, hi, rfl⟩ := List.mem_iff_getElem.1 he
  rw [List.length_drop] at hi
  rw [List.getElem_drop]
  by_cases hs : isAt (l.map (·.1)) key = true
  · have h1 := isAt_lt hs
    have h2 := isAt_eq hs
    simp only [if_pos hs] at hi ⊢
    rw [List.length_map] at h1
    rw [List.getElem_map] at h2
    have h3 := srt_lt h (i := rk (l.map (·.1)) key) (j := rk (l.map (·.1)) key + 1 + i) (by omega) (by omega)
    rw [h2] at h3
    exact h3
  · simp only [if_neg hs, Nat.add_zero] at hi ⊢
    have h1 := rk_at (l.map (·.1)) key (by rw [List.length_map]; omega)
    rw [List.getElem_map] at h1
    have h2 : ltB key l[rk (l.map (·.1)) key].1 = true := by
      cases hc : ltB key l[rk (l.map (·.1)) key].1 with
      | true => rfl
      | false =>
        exfalso
        apply hs
        unfold isAt
        rw [List.getElem?_map, List.getElem?_eq_getElem (by omega)]
        exact beq_iff_eq.2 (congrArg some (ltB_tri hc h1).symm)
    cases i with
    | zero => exact h2
    | succ i => exact ltB_trans h2 (srt_lt h (by omega) (by omega))
theorem rk_before {l : List En} {key : Tx} : ∀ e ∈ l.take (rk (l.map (·.1)) key), ltB e.1 key = true := by
  intro e he
  obtain ⟨i, hi, rfl⟩ := List.mem_iff_getElem.1 he
  rw [List.length_take] at hi
  rw [List.getElem_take]
  have := rk_lt (l.map (·.1)) key i (by rw [List.length_map]; omega) (by omega)
  rwa [List.getElem_map] at this
theorem split_at {l : List En} {key : Tx} (hs : isAt (l.map (·.1)) key = true) : ∃ v, l = l.take (rk (l.map (·.1)) key) ++ (key, v) :: l.drop (rk (l.map (·.1)) key + 1) ∧ l[rk (l.map (·.1)) key]? = some (key, v) := by
  have h1 := isAt_lt hs
  have h2 := isAt_eq hs
  rw [List.length_map] at h1
  rw [List.getElem_map] at h2
  refine ⟨l[rk (l.map (·.1)) key].2, ?_, ?_⟩
  · have : (key, l[rk (l.map (·.1)) key].2) = l[rk (l.map (·.1)) key] := Prod.ext h2.symm rfl
    rw [this, List.getElem_cons_drop, List.take_append_drop]
  · rw [List.getElem?_eq_getElem h1]
    exact congrArg some (Prod.ext h2 rfl)
theorem setM_is {l : List En} (h : Srt l) {key : Tx} (hs : isAt (l.map (·.1)) key = true) (val : Tx) : setM l key val = l.take (rk (l.map (·.1)) key) ++ (key, val) :: l.drop (rk (l.map (·.1)) key + 1) := by
  obtain ⟨v, h1, _⟩ := split_at hs
  have h2 := rk_before (l := l) (key := key)
  generalize hA : l.take (rk (l.map (·.1)) key) = A at *
  generalize hC : l.drop (rk (l.map (·.1)) key + 1) = C at *
  rw [h1, setM_mid _ h2, setM, if_neg (by rw [ltB_irr]; simp), if_pos rfl]
theorem setM_not {l : List En} (h : Srt l) {key : Tx} (hs : isAt (l.map (·.1)) key = false) (val : Tx) : setM l key val = l.take (rk (l.map (·.1)) key) ++ (key, val) :: l.drop (rk (l.map (·.1)) key) := by
  have h2 := rk_before (l := l) (key := key)
  have h3 := srt_after h (key := key)
  rw [if_neg (by rw [hs]; simp), Nat.add_zero] at h3
  have h1 : l = l.take (rk (l.map (·.1)) key) ++ l.drop (rk (l.map (·.1)) key) := (List.take_append_drop ..).symm
  generalize hA : l.take (rk (l.map (·.1)) key) = A at *
  generalize hC : l.drop (rk (l.map (·.1)) key) = C at *
  rw [h1, setM_mid _ h2]
  have := setM_end [] C h3 val
  rw [List.nil_append] at this
  rw [this]; rfl
theorem delM_is {l : List En} (h : Srt l) {key : Tx} (hs : isAt (l.map (·.1)) key = true) : delM l key = l.take (rk (l.map (·.1)) key) ++ l.drop (rk (l.map (·.1)) key + 1) := by
  obtain ⟨v, h1, _⟩ := split_at hs
  have h2 := rk_before (l := l) (key := key)
  have h3 := srt_after h (key := key)
  rw [if_pos hs] at h3
  generalize hA : l.take (rk (l.map (·.1)) key) = A at *
  generalize hC : l.drop (rk (l.map (·.1)) key + 1) = C at *
  have h4 := delM_in (X := [(key, v)]) h2 h3
  rw [h1]
  rw [List.append_assoc, List.singleton_append] at h4
  rw [h4]
  simp [delM]
theorem delM_not {l : List En} (h : Srt l) {key : Tx} (hs : isAt (l.map (·.1)) key = false) : delM l key = l := by
  have h2 := rk_before (l := l) (key := key)
  have h3 := srt_after h (key := key)
  rw [if_neg (by rw [hs]; simp), Nat.add_zero] at h3
  refine delM_none fun e he => ?_
  rw [← List.take_append_drop (rk (l.map (·.1)) key) l] at he
  rcases List.mem_append.1 he with he | he
  · exact ltB_ne (h2 e he)
  · exact fun e2 => ltB_ne (h3 e he) e2.symm
theorem getM_is {l : List En} (h : Srt l) {key : Tx} (hs : isAt (l.map (·.1)) key = true) : getM l key = (l[rk (l.map (·.1)) key]?).map (·.2) := by
  obtain ⟨v, h1, h4⟩ := split_at hs
  have h2 := rk_before (l := l) (key := key)
  rw [h4]
  generalize hA : l.take (rk (l.map (·.1)) key) = A at *
  generalize hC : l.drop (rk (l.map (·.1)) key + 1) = C at *
  rw [h1, getM_app_l _ (fun e he => ltB_ne (h2 e he)), getM, if_pos rfl]
  rfl
theorem getM_none {l : List En} {key : Tx} (h : ∀ e ∈ l, e.1 ≠ key) : getM l key = none := by
  have := getM_app_l (A := l) [] h
  rw [List.append_nil] at this
  exact this
theorem getM_not {l : List En} (h : Srt l) {key : Tx} (hs : isAt (l.map (·.1)) key = false) : getM l key = none := by
  have h2 := rk_before (l := l) (key := key)
  have h3 := srt_after h (key := key)
  rw [if_neg (by rw [hs]; simp), Nat.add_zero] at h3
  refine getM_none fun e he => ?_
  rw [← List.take_append_drop (rk (l.map (·.1)) key) l] at he
  rcases List.mem_append.1 he with he | he
  · exact ltB_ne (h2 e he)
  · exact fun e2 => ltB_ne (h3 e he) e2.symm
theorem srt_setM {l : List En} (h : Srt l) (key val : Tx) : Srt (setM l key val) := by
  have h2 := rk_before (l := l) (key := key)
  have h3 := srt_after h (key := key)
  by_cases hs : isAt (l.map (·.1)) key = true
  · rw [setM_is h hs]
    rw [if_pos hs] at h3
    have h5 := h.sublist (List.take_sublist (rk (l.map (·.1)) key) l)
    have h6 := h.sublist (List.drop_sublist (rk (l.map (·.1)) key + 1) l)
    refine List.pairwise_append.2 ⟨h5, List.pairwise_cons.2 ⟨h3, h6⟩, fun a ha b hb => ?_⟩
    rcases List.mem_cons.1 hb with rfl | hb
    · exact h2 a ha
    · exact ltB_trans (h2 a ha) (h3 b hb)
  · rw [Bool.not_eq_true] at hs
    rw [setM_not h hs]
    rw [if_neg (by rw [hs]; simp), Nat.add_zero] at h3
    have h5 := h.sublist (List.take_sublist (rk (l.map (·.1)) key) l)
    have h6 := h.sublist (List.drop_sublist (rk (l.map (·.1)) key) l)
    refine List.pairwise_append.2 ⟨h5, List.pairwise_cons.2 ⟨h3, h6⟩, fun a ha b hb => ?_⟩
    rcases List.mem_cons.1 hb with rfl | hb
    · exact h2 a ha
    · exact ltB_trans (h2 a ha) (h3 b hb)
theorem srt_delM {l : List En} (h : Srt l) (key : Tx) : Srt (delM l key) := List.Pairwise.sublist List.filter_sublist h

/-! tokens: keys between kids, and entries -/
structure Tok where
  k : Tx
  e : Option Tx
def Tok.lt (a b : Tok) : Prop := ltB a.k b.k = true ∨ (a.k = b.k ∧ a.e = none ∧ b.e ≠ none)
theorem Tok.lt_trans {a b c : Tok} (h : a.lt b) (k : b.lt c) : a.lt c := by
  rcases h with h | ⟨h1, h2, h3⟩ <;> rcases k with k | ⟨k1, k2, k3⟩
  · exact .inl (ltB_trans h k)
  · exact .inl (by rw [← k1]; exact h)
  · exact .inl (by rw [h1]; exact k)
  · exact absurd k2 h3
theorem Tok.lt_ee {a b : Tok} (h : a.lt b) (ha : a.e ≠ none) : ltB a.k b.k = true := by
  rcases h with h | ⟨h1, h2, h3⟩
  · exact h
  · exact absurd h2 ha
theorem Tok.lt_ss {a b : Tok} (h : a.lt b) (hb : b.e = none) : ltB a.k b.k = true := by
  rcases h with h | ⟨h1, h2, h3⟩
  · exact h
  · exact absurd hb h3
theorem Tok.lt_le {a b : Tok} (h : a.lt b) : ltB b.k a.k = false := by
  rcases h with h | ⟨h1, h2, h3⟩
  · exact ltB_asym h
  · rw [h1]; exact ltB_irr _
abbrev sep (k : Tx) : Tok := ⟨k, none⟩
abbrev ent (e : En) : Tok := ⟨e.1, some e.2⟩
def Asc (l : List Tok) : Prop := l.Pairwise Tok.lt
def ents (l : List Tok) : List En := l.filterMap (fun t => t.e.map (fun v => (t.k, v)))
theorem ents_app (a b : List Tok) : ents (a ++ b) = ents a ++ ents b := List.filterMap_append ..
theorem ents_nil : ents [] = [] := rfl
theorem ents_sep (k : Tx) (l : List Tok) : ents (sep k :: l) = ents l := rfl
theorem ents_ent (e : En) (l : List Tok) : ents (ent e :: l) = e :: ents l := rfl
theorem ents_leaf : ∀ l : List En, ents (l.map ent) = l
  | [] => rfl
  | e :: l => by rw [List.map_cons, ents_ent, ents_leaf l]
theorem mem_ents {l : List Tok} {e : En} (h : e ∈ ents l) : ent e ∈ l := by
  obtain ⟨t, h1, h2⟩ := List.mem_filterMap.1 h
  obtain ⟨v, h3, rfl⟩ := Option.map_eq_some_iff.1 h2
  have : ent (t.k, v) = t := by cases t; simp only at h3; subst h3; rfl
  rw [this]; exact h1
theorem Asc.srt {l : List Tok} (h : Asc l) : Srt (ents l) := by
  unfold Srt ents
  rw [List.pairwise_filterMap]
  refine h.imp ?_
  intro a b hab e he f hf
  obtain ⟨v, h3, rfl⟩ := Option.map_eq_some_iff.1 he
  obtain ⟨u, h4, rfl⟩ := Option.map_eq_some_iff.1 hf
  exact Tok.lt_ee hab (by rw [h3]; simp)
theorem asc_app {a b : List Tok} : Asc (a ++ b) ↔ Asc a ∧ Asc b ∧ ∀ x ∈ a, ∀ y ∈ b, x.lt y := List.pairwise_append
theorem asc_cons {a : Tok} {b : List Tok} : Asc (a :: b) ↔ (∀ y ∈ b, a.lt y) ∧ Asc b := List.pairwise_cons
theorem asc_leaf {l : List En} (h : Srt l) : Asc (l.map ent) := by
  unfold Asc
  rw [List.pairwise_map]
  exact h.imp (fun h => .inl h)

end Go.Proofs.Ytdilkgcoecipjaa
