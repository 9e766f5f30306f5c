/- Texts as lists of bytes, and their order. A sorted map, tokens in order: plain laws. Nodes and trees as pure data: bytes, sizes, rows of kids, tokens, pages. Nodes in memory; how many bytes a node has. btree: a node's bytes. btree: bits, and a node that is read off its bytes. -/
import Derived.Test.YtdilkgcoecipjaaM1
import Derived.Lib.Strings
import Derived.DeepKeys
import Derived.Test.YtdilkgcoecipjaaM5
namespace Go.Proofs.Ytdilkgcoecipjaa
open Go.RowKit
set_option linter.unusedVariables false

/-- a text of bytes -/
def B (l : List UInt8) : ByteArray := ⟨l.toArray⟩

@[go_sem] theorem B_size (l : List UInt8) : (B l).size = l.length := by simp [B, ByteArray.size]
theorem B_data (l : List UInt8) : (B l).data.toList = l := rfl
theorem toList_eq (a : ByteArray) : a.toList = a.data.toList := Go.Lib.toList_data a
@[go_sem] theorem B_toList (l : List UInt8) : (B l).toList = l := by rw [toList_eq]; rfl
@[go_sem] theorem mk_toList (l : List UInt8) : (ByteArray.mk (List.toArray l)).toList = l := B_toList l
theorem B_of (a : ByteArray) : a = B a.data.toList := rfl
theorem B_ext {a b : ByteArray} (h : a.data.toList = b.data.toList) : a = b := by
  rw [B_of a, B_of b, h]
theorem B_extract (l : List UInt8) (i j : Nat) : (B l).extract i j = B ((l.drop i).take (j - i)) := by
  apply B_ext
  rw [Go.Lib.extract_data, B_data, B_data]
@[go_sem] theorem B_extract_to (l : List UInt8) (j : Nat) : (B l).extract 0 j = B (l.take j) := by rw [B_extract]; rfl
@[go_sem] theorem B_extract_from (l : List UInt8) (i : Nat) : (B l).extract i l.length = B (l.drop i) := by rw [B_extract, List.take_of_length_le (by simp)]
@[go_sem] theorem B_append (l m : List UInt8) : B l ++ B m = B (l ++ m) := by
  apply B_ext
  simp [B]
@[go_sem] theorem mk_append (l m : List UInt8) : ByteArray.mk (List.toArray l) ++ B m = B (l ++ m) := B_append l m
@[go_sem] theorem append_mk (l m : List UInt8) : B l ++ ByteArray.mk (List.toArray m) = B (l ++ m) := B_append l m

@[go_sem] theorem B_get (l : List UInt8) (i : Nat) (h : i < (B l).size) : (B l)[i]'h = l[i]'(by rw [B_size] at h; exact h) := rfl
/-! texts in order -/
abbrev ltB (a b : List UInt8) : Bool := Op.bytesLess a b
theorem ltB_nil (a : List UInt8) : ltB a [] = false := by cases a <;> rfl
theorem ltB_irr : ∀ a : List UInt8, ltB a a = false
  | [] => rfl
  | x :: a => by
    have h := ltB_irr a
    simp [ltB, Op.bytesLess] at h ⊢
    exact h
theorem ltB_trans : ∀ {a b c : List UInt8}, ltB a b = true → ltB b c = true → ltB a c = true
  | a, b, [], _, h2 => by rw [ltB_nil] at h2; cases h2
  | a, [], c :: zs, h1, _ => by rw [ltB_nil] at h1; cases h1
  | [], b :: ys, c :: zs, _, _ => rfl
  | a :: xs, b :: ys, c :: zs, h1, h2 => by
    simp only [ltB, Op.bytesLess, Bool.or_eq_true, Bool.and_eq_true, decide_eq_true_eq, beq_iff_eq] at h1 h2 ⊢
    rcases h1 with h1 | ⟨rfl, h1⟩ <;> rcases h2 with h2 | ⟨rfl, h2⟩
    · exact .inl (UInt8.lt_trans h1 h2)
    · exact .inl h1
    · exact .inl h2
    · exact .inr ⟨rfl, ltB_trans h1 h2⟩
theorem ltB_tri : ∀ {a b : List UInt8}, ltB a b = false → ltB b a = false → a = b
  | [], [], _, _ => rfl
  | [], _ :: _, h, _ => by cases h
  | _ :: _, [], _, h => by cases h
  | a :: xs, b :: ys, h1, h2 => by
    simp only [ltB, Op.bytesLess, Bool.or_eq_false_iff, Bool.and_eq_false_iff, decide_eq_false_iff_not, beq_eq_false_iff_ne] at h1 h2
    have hab : a = b := by
      have e1 := h1.1
      have e2 := h2.1
      exact UInt8.le_antisymm (by simpa using e2) (by simpa using e1)
    subst hab
    have r1 : ltB xs ys = false := by rcases h1.2 with h | h; exact absurd rfl h; exact h
    have r2 : ltB ys xs = false := by rcases h2.2 with h | h; exact absurd rfl h; exact h
    rw [ltB_tri r1 r2]
theorem ltB_asym {a b : List UInt8} (h : ltB a b = true) : ltB b a = false := by
  cases hb : ltB b a with
  | false => rfl
  | true => have := ltB_trans h hb; rw [ltB_irr] at this; cases this
/-- not behind, then before: as with ≤ -/
theorem ltB_le_trans {a b c : List UInt8} (h1 : ltB b a = false) (h2 : ltB c b = false) : ltB c a = false := by
  cases h : ltB c a with
  | false => rfl
  | true =>
    cases hab : ltB a b with
    | true => rw [ltB_trans h hab] at h2; cases h2
    | false => have := ltB_tri hab h1; subst this; rw [h] at h2; cases h2
end Go.Proofs.Ytdilkgcoecipjaa

namespace Go.Proofs.Ytdilkgcoecipjaa
set_option linter.unusedVariables false

abbrev Tx := List UInt8
abbrev En := Tx × Tx

theorem ltB_ne {a b : Tx} (h : ltB a b = true) : a ≠ b := fun e => by subst e; rw [ltB_irr] at h; cases h
theorem ltB_le_lt {a b c : Tx} (h1 : ltB b a = false) (h2 : ltB b c = true) : ltB a c = true := by
  cases h : ltB a c with
  | true => rfl
  | false => rw [ltB_le_trans h h1] at h2; cases h2
theorem ltB_lt_le {a b c : Tx} (h1 : ltB a b = true) (h2 : ltB c b = false) : ltB a c = true := by
  cases h : ltB a c with
  | true => rfl
  | false => rw [ltB_le_trans h2 h] at h1; cases h1

/-- how many keys stand ahead -/
def rk : List Tx → Tx → Nat
  | [], _ => 0
  | k :: r, key => if ltB k key = true then rk r key + 1 else 0
theorem rk_le : ∀ (l : List Tx) (key : Tx), rk l key ≤ l.length
  | [], _ => Nat.le_refl _
  | k :: r, key => by unfold rk; split <;> simp; exact rk_le r key
theorem rk_lt : ∀ (l : List Tx) (key : Tx) (i : Nat) (hi : i < l.length), i < rk l key → ltB l[i] key = true
  | [], _, i, hi, _ => by simp at hi
  | k :: r, key, i, hi, h => by
    unfold rk at h
    split at h
    · rename_i hk
      cases i with
      | zero => exact hk
      | succ i => exact rk_lt r key i (by simpa using hi) (by omega)
    · omega
theorem rk_at : ∀ (l : List Tx) (key : Tx) (hi : rk l key < l.length), ltB (l[rk l key]'hi) key = false
  | [], _, hi => by simp at hi
  | k :: r, key, hi => by
    by_cases hk : ltB k key = true
    · have e : rk (k :: r) key = rk r key + 1 := by rw [rk, if_pos hk]
      simp only [e, List.getElem_cons_succ]
      exact rk_at r key (by rw [e] at hi; simpa using hi)
    · have e : rk (k :: r) key = 0 := by rw [rk, if_neg hk]
      simp only [e, List.getElem_cons_zero]
      simpa using hk
theorem rk_of {l : List Tx} {key : Tx} {n : Nat} (hn : n ≤ l.length) (h1 : ∀ i (hi : i < l.length), i < n → ltB l[i] key = true) (h2 : ∀ hi : n < l.length, ltB l[n] key = false) : rk l key = n := by
  rcases Nat.lt_trichotomy (rk l key) n with h | h | h
  · have := h1 (rk l key) (by omega) h
    rw [rk_at l key (by omega)] at this; cases this
  · exact h
  · have := h2 (by have := rk_le l key; omega)
    rw [rk_lt l key n (by have := rk_le l key; omega) h] at this; cases this
/-- is the key there? -/
def isAt (l : List Tx) (key : Tx) : Bool := l[rk l key]? == some key
def downP (l : List Tx) (key : Tx) : Nat := if isAt l key = true then rk l key + 1 else rk l key
theorem isAt_lt {l : List Tx} {key : Tx} (h : isAt l key = true) : rk l key < l.length := by
  unfold isAt at h
  have h := eq_of_beq h
  exact (List.getElem?_eq_some_iff.1 h).1
theorem isAt_eq {l : List Tx} {key : Tx} (h : isAt l key = true) : l[rk l key]'(isAt_lt h) = key := by
  have h2 : l[rk l key]? = some key := eq_of_beq h
  exact (List.getElem?_eq_some_iff.1 h2).2
theorem downP_le (l : List Tx) (key : Tx) : downP l key ≤ l.length := by
  unfold downP
  split
  · rename_i h; have := isAt_lt h; omega
  · exact rk_le _ _

/-! the map -/
def Srt (l : List En) : Prop := l.Pairwise fun a b => ltB a.1 b.1 = true
def getM : List En → Tx → Option Tx
  | [], _ => none
  | e :: r, key => if e.1 = key then some e.2 else getM r key
def setM : List En → Tx → Tx → List En
  | [], key, val => [(key, val)]
  | e :: r, key, val => if ltB e.1 key = true then e :: setM r key val else if e.1 = key then (key, val) :: r else (key, val) :: e :: r
def delM (l : List En) (key : Tx) : List En := l.filter (fun e => !(e.1 == key))
def inR (from_ to : Tx) (k : Tx) : Bool := !(ltB k from_) && (to == [] || ltB k to)
def rngM (l : List En) (from_ to : Tx) : List En := l.filter (fun e => inR from_ to e.1)

theorem setM_mid {A : List En} (X : List En) {key : Tx} (hA : ∀ e ∈ A, ltB e.1 key = true) (val : Tx) : setM (A ++ X) key val = A ++ setM X key val := by
  induction A with
  | nil => rfl
  | cons a A ih =>
    rw [List.cons_append, setM, if_pos (hA a (List.mem_cons_self ..)), ih (fun e he => hA e (List.mem_cons_of_mem _ he))]
    rfl
theorem setM_end : ∀ (X C : List En) {key : Tx}, (∀ e ∈ C, ltB key e.1 = true) → ∀ val : Tx, setM (X ++ C) key val = setM X key val ++ C
  | [], [], key, hC, val => rfl
  | [], c :: C, key, hC, val => by
    have h := hC c (List.mem_cons_self ..)
    show (if ltB c.1 key = true then c :: setM C key val else if c.1 = key then (key, val) :: C else (key, val) :: c :: C) = _
    rw [if_neg (by rw [ltB_asym h]; simp), if_neg (fun e => ltB_ne h e.symm)]
    rfl
  | x :: X, C, key, hC, val => by
    rw [List.cons_append, setM, setM]
    split
    · rw [setM_end X C hC val]; rfl
    · split <;> rfl
theorem setM_in {A X C : List En} {key : Tx} (hA : ∀ e ∈ A, ltB e.1 key = true) (hC : ∀ e ∈ C, ltB key e.1 = true) (val : Tx) :
    setM (A ++ X ++ C) key val = A ++ setM X key val ++ C := by
  rw [List.append_assoc, setM_mid _ hA, setM_end _ _ hC, List.append_assoc]
theorem delM_none {A : List En} {key : Tx} (h : ∀ e ∈ A, e.1 ≠ key) : delM A key = A := by
  unfold delM
  rw [List.filter_eq_self]
  intro e he
  simpa using h e he
theorem delM_app (A C : List En) (key : Tx) : delM (A ++ C) key = delM A key ++ delM C key := List.filter_append ..
theorem delM_in {A X C : List En} {key : Tx} (hA : ∀ e ∈ A, ltB e.1 key = true) (hC : ∀ e ∈ C, ltB key e.1 = true) :
    delM (A ++ X ++ C) key = A ++ delM X key ++ C := by
  rw [delM_app, delM_app, delM_none (fun e he => ltB_ne (hA e he)), delM_none (A := C) (fun e he h => ltB_ne (hC e he) h.symm)]
theorem getM_app_l {A : List En} (X : List En) {key : Tx} (hA : ∀ e ∈ A, e.1 ≠ key) : getM (A ++ X) key = getM X key := by
  induction A with
  | nil => rfl
  | cons a A ih => rw [List.cons_append, getM, if_neg (hA a (List.mem_cons_self ..)), ih (fun e he => hA e (List.mem_cons_of_mem _ he))]
theorem getM_app_r (X : List En) {C : List En} {key : Tx} (hC : ∀ e ∈ C, e.1 ≠ key) : getM (X ++ C) key = getM X key := by
  induction X with
  | nil =>
    induction C with
    | nil => rfl
    | cons a A ih =>
      show (if a.1 = key then some a.2 else getM A key) = none
      rw [if_neg (hC a (List.mem_cons_self ..))]; exact ih (fun e he => hC e (List.mem_cons_of_mem _ he))
  | cons a A ih => rw [List.cons_append, getM, getM, ih]
theorem getM_in {A X C : List En} {key : Tx} (hA : ∀ e ∈ A, ltB e.1 key = true) (hC : ∀ e ∈ C, ltB key e.1 = true) : getM (A ++ X ++ C) key = getM X key := by
  rw [List.append_assoc, getM_app_l _ (fun e he => ltB_ne (hA e he)), getM_app_r _ (fun e he h => ltB_ne (hC e he) h.symm)]

/-! by the place -/
theorem srt_lt {l : List En} (h : Srt l) {i j : Nat} (hj : j < l.length) (hij : i < j) : ltB l[i].1 l[j].1 = true := List.pairwise_iff_getElem.1 h i j (by omega) hj hij
theorem srt_after {l : List En} (h : Srt l) {key : Tx} : ∀ e ∈ l.drop (rk (l.map (·.1)) key + (if isAt (l.map (·.1)) key = true then 1 else 0)), ltB key e.1 = true := by
  intro e he
  obtain ⟨i, hi, rfl⟩ := List.mem_iff_getElem.1 he
  rw [List.length_drop] at hi
  rw [List.getElem_drop]
  by_cases hs : isAt (l.map (·.1)) key = true
  · have h1 := isAt_lt hs
    have h2 := isAt_eq hs
    simp only [if_pos hs] at hi ⊢
    rw [List.length_map] at h1
    rw [List.getElem_map] at h2
    have h3 := srt_lt h (i := rk (l.map (·.1)) key) (j := rk (l.map (·.1)) key + 1 + i) (by omega) (by omega)
    rw [h2] at h3
    exact h3
  · simp only [if_neg hs, Nat.add_zero] at hi ⊢
    have h1 := rk_at (l.map (·.1)) key (by rw [List.length_map]; omega)
    rw [List.getElem_map] at h1
    have h2 : ltB key l[rk (l.map (·.1)) key].1 = true := by
      cases hc : ltB key l[rk (l.map (·.1)) key].1 with
      | true => rfl
      | false =>
        exfalso
        apply hs
        unfold isAt
        rw [List.getElem?_map, List.getElem?_eq_getElem (by omega)]
        exact beq_iff_eq.2 (congrArg some (ltB_tri hc h1).symm)
    cases i with
    | zero => exact h2
    | succ i => exact ltB_trans h2 (srt_lt h (by omega) (by omega))
theorem rk_before {l : List En} {key : Tx} : ∀ e ∈ l.take (rk (l.map (·.1)) key), ltB e.1 key = true := by
  intro e he
  obtain ⟨i, hi, rfl⟩ := List.mem_iff_getElem.1 he
  rw [List.length_take] at hi
  rw [List.getElem_take]
  have := rk_lt (l.map (·.1)) key i (by rw [List.length_map]; omega) (by omega)
  rwa [List.getElem_map] at this
theorem split_at {l : List En} {key : Tx} (hs : isAt (l.map (·.1)) key = true) : ∃ v, l = l.take (rk (l.map (·.1)) key) ++ (key, v) :: l.drop (rk (l.map (·.1)) key + 1) ∧ l[rk (l.map (·.1)) key]? = some (key, v) := by
  have h1 := isAt_lt hs
  have h2 := isAt_eq hs
  rw [List.length_map] at h1
  rw [List.getElem_map] at h2
  refine ⟨l[rk (l.map (·.1)) key].2, ?_, ?_⟩
  · have : (key, l[rk (l.map (·.1)) key].2) = l[rk (l.map (·.1)) key] := Prod.ext h2.symm rfl
    rw [this, List.getElem_cons_drop, List.take_append_drop]
  · rw [List.getElem?_eq_getElem h1]
    exact congrArg some (Prod.ext h2 rfl)
theorem setM_is {l : List En} (h : Srt l) {key : Tx} (hs : isAt (l.map (·.1)) key = true) (val : Tx) : setM l key val = l.take (rk (l.map (·.1)) key) ++ (key, val) :: l.drop (rk (l.map (·.1)) key + 1) := by
  obtain ⟨v, h1, _⟩ := split_at hs
  have h2 := rk_before (l := l) (key := key)
  generalize hA : l.take (rk (l.map (·.1)) key) = A at *
  generalize hC : l.drop (rk (l.map (·.1)) key + 1) = C at *
  rw [h1, setM_mid _ h2, setM, if_neg (by rw [ltB_irr]; simp), if_pos rfl]
theorem setM_not {l : List En} (h : Srt l) {key : Tx} (hs : isAt (l.map (·.1)) key = false) (val : Tx) : setM l key val = l.take (rk (l.map (·.1)) key) ++ (key, val) :: l.drop (rk (l.map (·.1)) key) := by
  have h2 := rk_before (l := l) (key := key)
  have h3 := srt_after h (key := key)
  rw [if_neg (by rw [hs]; simp), Nat.add_zero] at h3
  have h1 : l = l.take (rk (l.map (·.1)) key) ++ l.drop (rk (l.map (·.1)) key) := (List.take_append_drop ..).symm
  generalize hA : l.take (rk (l.map (·.1)) key) = A at *
  generalize hC : l.drop (rk (l.map (·.1)) key) = C at *
  rw [h1, setM_mid _ h2]
  have := setM_end [] C h3 val
  rw [List.nil_append] at this
  rw [this]; rfl
theorem delM_is {l : List En} (h : Srt l) {key : Tx} (hs : isAt (l.map (·.1)) key = true) : delM l key = l.take (rk (l.map (·.1)) key) ++ l.drop (rk (l.map (·.1)) key + 1) := by
  obtain ⟨v, h1, _⟩ := split_at hs
  have h2 := rk_before (l := l) (key := key)
  have h3 := srt_after h (key := key)
  rw [if_pos hs] at h3
  generalize hA : l.take (rk (l.map (·.1)) key) = A at *
  generalize hC : l.drop (rk (l.map (·.1)) key + 1) = C at *
  have h4 := delM_in (X := [(key, v)]) h2 h3
  rw [h1]
  rw [List.append_assoc, List.singleton_append] at h4
  rw [h4]
  simp [delM]
theorem delM_not {l : List En} (h : Srt l) {key : Tx} (hs : isAt (l.map (·.1)) key = false) : delM l key = l := by
  have h2 := rk_before (l := l) (key := key)
  have h3 := srt_after h (key := key)
  rw [if_neg (by rw [hs]; simp), Nat.add_zero] at h3
  refine delM_none fun e he => ?_
  rw [← List.take_append_drop (rk (l.map (·.1)) key) l] at he
  rcases List.mem_append.1 he with he | he
  · exact ltB_ne (h2 e he)
  · exact fun e2 => ltB_ne (h3 e he) e2.symm
theorem getM_is {l : List En} (h : Srt l) {key : Tx} (hs : isAt (l.map (·.1)) key = true) : getM l key = (l[rk (l.map (·.1)) key]?).map (·.2) := by
  obtain ⟨v, h1, h4⟩ := split_at hs
  have h2 := rk_before (l := l) (key := key)
  rw [h4]
  generalize hA : l.take (rk (l.map (·.1)) key) = A at *
  generalize hC : l.drop (rk (l.map (·.1)) key + 1) = C at *
  rw [h1, getM_app_l _ (fun e he => ltB_ne (h2 e he)), getM, if_pos rfl]
  rfl
theorem getM_none {l : List En} {key : Tx} (h : ∀ e ∈ l, e.1 ≠ key) : getM l key = none := by
  have := getM_app_l (A := l) [] h
  rw [List.append_nil] at this
  exact this
theorem getM_not {l : List En} (h : Srt l) {key : Tx} (hs : isAt (l.map (·.1)) key = false) : getM l key = none := by
  have h2 := rk_before (l := l) (key := key)
  have h3 := srt_after h (key := key)
  rw [if_neg (by rw [hs]; simp), Nat.add_zero] at h3
  refine getM_none fun e he => ?_
  rw [← List.take_append_drop (rk (l.map (·.1)) key) l] at he
  rcases List.mem_append.1 he with he | he
  · exact ltB_ne (h2 e he)
  · exact fun e2 => ltB_ne (h3 e he) e2.symm
theorem srt_setM {l : List En} (h : Srt l) (key val : Tx) : Srt (setM l key val) := by
  have h2 := rk_before (l := l) (key := key)
  have h3 := srt_after h (key := key)
  by_cases hs : isAt (l.map (·.1)) key = true
  · rw [setM_is h hs]
    rw [if_pos hs] at h3
    have h5 := h.sublist (List.take_sublist (rk (l.map (·.1)) key) l)
    have h6 := h.sublist (List.drop_sublist (rk (l.map (·.1)) key + 1) l)
    refine List.pairwise_append.2 ⟨h5, List.pairwise_cons.2 ⟨h3, h6⟩, fun a ha b hb => ?_⟩
    rcases List.mem_cons.1 hb with rfl | hb
    · exact h2 a ha
    · exact ltB_trans (h2 a ha) (h3 b hb)
  · rw [Bool.not_eq_true] at hs
    rw [setM_not h hs]
    rw [if_neg (by rw [hs]; simp), Nat.add_zero] at h3
    have h5 := h.sublist (List.take_sublist (rk (l.map (·.1)) key) l)
    have h6 := h.sublist (List.drop_sublist (rk (l.map (·.1)) key) l)
    refine List.pairwise_append.2 ⟨h5, List.pairwise_cons.2 ⟨h3, h6⟩, fun a ha b hb => ?_⟩
    rcases List.mem_cons.1 hb with rfl | hb
    · exact h2 a ha
    · exact ltB_trans (h2 a ha) (h3 b hb)
theorem srt_delM {l : List En} (h : Srt l) (key : Tx) : Srt (delM l key) := List.Pairwise.sublist List.filter_sublist h

/-! tokens: keys between kids, and entries -/
structure Tok where
  k : Tx
  e : Option Tx
def Tok.lt (a b : Tok) : Prop := ltB a.k b.k = true ∨ (a.k = b.k ∧ a.e = none ∧ b.e ≠ none)
theorem Tok.lt_trans {a b c : Tok} (h : a.lt b) (k : b.lt c) : a.lt c := by
  rcases h with h | ⟨h1, h2, h3⟩ <;> rcases k with k | ⟨k1, k2, k3⟩
  · exact .inl (ltB_trans h k)
  · exact .inl (by rw [← k1]; exact h)
  · exact .inl (by rw [h1]; exact k)
  · exact absurd k2 h3
theorem Tok.lt_ee {a b : Tok} (h : a.lt b) (ha : a.e ≠ none) : ltB a.k b.k = true := by
  rcases h with h | ⟨h1, h2, h3⟩
  · exact h
  · exact absurd h2 ha
theorem Tok.lt_ss {a b : Tok} (h : a.lt b) (hb : b.e = none) : ltB a.k b.k = true := by
  rcases h with h | ⟨h1, h2, h3⟩
  · exact h
  · exact absurd hb h3
theorem Tok.lt_le {a b : Tok} (h : a.lt b) : ltB b.k a.k = false := by
  rcases h with h | ⟨h1, h2, h3⟩
  · exact ltB_asym h
  · rw [h1]; exact ltB_irr _
abbrev sep (k : Tx) : Tok := ⟨k, none⟩
abbrev ent (e : En) : Tok := ⟨e.1, some e.2⟩
def Asc (l : List Tok) : Prop := l.Pairwise Tok.lt
def ents (l : List Tok) : List En := l.filterMap (fun t => t.e.map (fun v => (t.k, v)))
theorem ents_app (a b : List Tok) : ents (a ++ b) = ents a ++ ents b := List.filterMap_append ..
theorem ents_nil : ents [] = [] := rfl
theorem ents_sep (k : Tx) (l : List Tok) : ents (sep k :: l) = ents l := rfl
theorem ents_ent (e : En) (l : List Tok) : ents (ent e :: l) = e :: ents l := rfl
theorem ents_leaf : ∀ l : List En, ents (l.map ent) = l
  | [] => rfl
  | e :: l => by rw [List.map_cons, ents_ent, ents_leaf l]
theorem mem_ents {l : List Tok} {e : En} (h : e ∈ ents l) : ent e ∈ l := by
  obtain ⟨t, h1, h2⟩ := List.mem_filterMap.1 h
  obtain ⟨v, h3, rfl⟩ := Option.map_eq_some_iff.1 h2
  have : ent (t.k, v) = t := by cases t; simp only at h3; subst h3; rfl
  rw [this]; exact h1
theorem Asc.srt {l : List Tok} (h : Asc l) : Srt (ents l) := by
  unfold Srt ents
  rw [List.pairwise_filterMap]
  refine h.imp ?_
  intro a b hab e he f hf
  obtain ⟨v, h3, rfl⟩ := Option.map_eq_some_iff.1 he
  obtain ⟨u, h4, rfl⟩ := Option.map_eq_some_iff.1 hf
  exact Tok.lt_ee hab (by rw [h3]; simp)
theorem asc_app {a b : List Tok} : Asc (a ++ b) ↔ Asc a ∧ Asc b ∧ ∀ x ∈ a, ∀ y ∈ b, x.lt y := List.pairwise_append
theorem asc_cons {a : Tok} {b : List Tok} : Asc (a :: b) ↔ (∀ y ∈ b, a.lt y) ∧ Asc b := List.pairwise_cons
theorem asc_leaf {l : List En} (h : Srt l) : Asc (l.map ent) := by
  unfold Asc
  rw [List.pairwise_map]
  exact h.imp (fun h => .inl h)

end Go.Proofs.Ytdilkgcoecipjaa

namespace Go.Proofs.Ytdilkgcoecipjaa
set_option linter.unusedVariables false

structure Nd where
  leaf : Bool
  keys : List Tx
  vals : List Tx
  kids : List Nat

def encT (t : Tx) : Tx := UInt8.ofNat t.length :: t
def le2 (k : Nat) : Tx := [UInt8.ofNat k, UInt8.ofNat (k / 256)]
/-- the texts of a node, one after another -/
def bodyP (n : Nd) : Tx := if n.leaf then (n.keys.zip n.vals).flatMap (fun e => encT e.1 ++ encT e.2) else n.keys.flatMap encT
def enc (n : Nd) : Tx := (if n.leaf then 1 else 2) :: UInt8.ofNat n.keys.length :: (bodyP n ++ n.kids.flatMap le2)
/-- what each key costs -/
def costs (n : Nd) : List Nat := if n.leaf then (n.keys.zip n.vals).map (fun e => 2 + e.1.length + e.2.length) else n.keys.map (fun k => 1 + k.length)
def sizeP (n : Nd) : Nat := 2 + 2 * n.kids.length + (costs n).sum

def OkN (n : Nd) : Prop :=
  if n.leaf = true then n.vals.length = n.keys.length ∧ n.kids = [] ∧ ∀ e ∈ n.keys.zip n.vals, e.1.length ≤ 140 ∧ e.1.length + e.2.length ≤ 150
  else n.vals = [] ∧ n.kids.length = n.keys.length + 1 ∧ (∀ k ∈ n.keys, k.length ≤ 140) ∧ ∀ k ∈ n.kids, k < 65536

theorem encT_length (t : Tx) : (encT t).length = 1 + t.length := by simp [encT]; omega
theorem flatMap_le2 (l : List Nat) : (l.flatMap le2).length = 2 * l.length := by
  induction l with
  | nil => rfl
  | cons a l ih => rw [List.flatMap_cons, List.length_append, ih, List.length_cons]; simp [le2]; omega
theorem bodyP_length (n : Nd) : (bodyP n).length = (costs n).sum := by
  unfold bodyP costs
  split
  · generalize n.keys.zip n.vals = z
    induction z with
    | nil => rfl
    | cons a l ih => rw [List.flatMap_cons, List.length_append, ih, List.map_cons, List.sum_cons, List.length_append, encT_length, encT_length]; omega
  · generalize n.keys = z
    induction z with
    | nil => rfl
    | cons a l ih => rw [List.flatMap_cons, List.length_append, ih, List.map_cons, List.sum_cons, encT_length]
theorem enc_length (n : Nd) : (enc n).length = sizeP n := by
  unfold enc sizeP
  rw [List.length_cons, List.length_cons, List.length_append, bodyP_length, flatMap_le2]
  omega
theorem len_le_sum : ∀ (l : List Nat), (∀ x ∈ l, 1 ≤ x) → l.length ≤ l.sum
  | [], _ => Nat.le_refl _
  | a :: l, h => by
    have := len_le_sum l (fun x hx => h x (List.mem_cons_of_mem _ hx))
    have := h a (List.mem_cons_self ..)
    rw [List.length_cons, List.sum_cons]; omega
theorem costs_pos (n : Nd) : ∀ x ∈ costs n, 1 ≤ x := by
  intro x hx
  unfold costs at hx
  split at hx <;> obtain ⟨e, _, rfl⟩ := List.mem_map.1 hx <;> omega
theorem costs_length {n : Nd} (h : OkN n) : (costs n).length = n.keys.length := by
  unfold OkN at h
  unfold costs
  split
  · rename_i hl
    rw [if_pos hl] at h
    rw [List.length_map, List.length_zip, h.1, Nat.min_self]
  · rw [List.length_map]
theorem keys_size {n : Nd} (h : OkN n) : n.keys.length + 2 ≤ sizeP n := by
  have h1 := len_le_sum _ (costs_pos n)
  rw [costs_length h] at h1
  unfold sizeP
  omega

/-! rows: a first kid, and others with the keys ahead of them -/
section
variable {α β : Type}
abbrev Row (α : Type) := α × List (Tx × α)
def keysR (r : Row α) : List Tx := r.2.map (·.1)
def kidsR (r : Row α) : List α := r.1 :: r.2.map (·.2)
def fl (tk : α → List Tok) (r : Row α) : List Tok := tk r.1 ++ r.2.flatMap (fun x => sep x.1 :: tk x.2)
theorem kidsR_length (r : Row α) : (kidsR r).length = (keysR r).length + 1 := by simp [kidsR, keysR]
/-- a row in the place of the i-th kid -/
def rput : α → List (Tx × α) → Nat → Row α → Row α
  | _, l, 0, r => (r.1, r.2 ++ l)
  | t, [], _ + 1, _ => (t, [])
  | t, x :: l, i + 1, r => (t, (x.1, (rput x.2 l i r).1) :: (rput x.2 l i r).2)
/-- a row in the place of the i-th kid and the next one -/
def rjoin : α → List (Tx × α) → Nat → Row α → Row α
  | t, [], _, _ => (t, [])
  | _, _ :: l, 0, r => (r.1, r.2 ++ l)
  | t, x :: l, i + 1, r => (t, (x.1, (rjoin x.2 l i r).1) :: (rjoin x.2 l i r).2)

theorem rput_keys : ∀ (t : α) (l : List (Tx × α)) (i : Nat) (r : Row α), i ≤ l.length → keysR (rput t l i r) = (keysR (t, l)).take i ++ keysR r ++ (keysR (t, l)).drop i
  | _, l, 0, r, _ => by simp [rput, keysR]
  | t, [], i + 1, r, h => by simp at h
  | t, x :: l, i + 1, r, h => by
    have ih := rput_keys x.2 l i r (by simpa using h)
    simp only [rput, keysR, List.map_cons, List.take_succ_cons, List.drop_succ_cons, List.cons_append] at ih ⊢
    rw [ih]
theorem rput_kids : ∀ (t : α) (l : List (Tx × α)) (i : Nat) (r : Row α), i ≤ l.length → kidsR (rput t l i r) = (kidsR (t, l)).take i ++ kidsR r ++ (kidsR (t, l)).drop (i + 1)
  | _, l, 0, r, _ => by simp [rput, kidsR]
  | t, [], i + 1, r, h => by simp at h
  | t, x :: l, i + 1, r, h => by
    have ih := rput_kids x.2 l i r (by simpa using h)
    simp only [rput, kidsR, List.map_cons, List.take_succ_cons, List.drop_succ_cons, List.cons_append] at ih ⊢
    rw [ih]
theorem rjoin_keys : ∀ (t : α) (l : List (Tx × α)) (i : Nat) (r : Row α), i < l.length → keysR (rjoin t l i r) = (keysR (t, l)).take i ++ keysR r ++ (keysR (t, l)).drop (i + 1)
  | t, [], i, r, h => by simp at h
  | _, x :: l, 0, r, _ => by simp [rjoin, keysR]
  | t, x :: l, i + 1, r, h => by
    have ih := rjoin_keys x.2 l i r (by simpa using h)
    simp only [rjoin, keysR, List.map_cons, List.take_succ_cons, List.drop_succ_cons, List.cons_append] at ih ⊢
    rw [ih]
theorem rjoin_kids : ∀ (t : α) (l : List (Tx × α)) (i : Nat) (r : Row α), i < l.length → kidsR (rjoin t l i r) = (kidsR (t, l)).take i ++ kidsR r ++ (kidsR (t, l)).drop (i + 2)
  | t, [], i, r, h => by simp at h
  | _, x :: l, 0, r, _ => by simp [rjoin, kidsR]
  | t, x :: l, i + 1, r, h => by
    have ih := rjoin_kids x.2 l i r (by simpa using h)
    simp only [rjoin, kidsR, List.map_cons, List.take_succ_cons, List.drop_succ_cons, List.cons_append] at ih ⊢
    rw [ih]
theorem fl_cons (tk : α → List Tok) (t : α) (x : Tx × α) (l : List (Tx × α)) : fl tk (t, x :: l) = tk t ++ sep x.1 :: fl tk (x.2, l) := by
  simp [fl]
/-- what stands ahead of a kid, and behind it -/
theorem row_at (tk : α → List Tok) : ∀ (t : α) (l : List (Tx × α)) (i : Nat) (x : α), (kidsR (t, l))[i]? = some x →
    ∃ P Q, fl tk (t, l) = P ++ tk x ++ Q ∧ (∀ r, fl tk (rput t l i r) = P ++ fl tk r ++ Q) ∧ ((i = 0 ∧ P = []) ∨ ∃ P' k, P = P' ++ [sep k] ∧ 0 < i ∧ (keysR (t, l))[i - 1]? = some k) ∧
      ((i = l.length ∧ Q = []) ∨ ∃ Q' k, Q = sep k :: Q' ∧ (keysR (t, l))[i]? = some k)
  | t, l, 0, x, h => by
    have h : t = x := by simpa [kidsR] using h
    subst h
    refine ⟨[], l.flatMap (fun x => sep x.1 :: tk x.2), by simp [fl], fun r => by simp [rput, fl], .inl ⟨rfl, rfl⟩, ?_⟩
    cases l with
    | nil => exact .inl ⟨rfl, rfl⟩
    | cons y l => exact .inr ⟨tk y.2 ++ l.flatMap (fun x => sep x.1 :: tk x.2), y.1, by simp, by simp [keysR]⟩
  | t, [], i + 1, x, h => by simp [kidsR] at h
  | t, y :: l, i + 1, x, h => by
    obtain ⟨P, Q, h1, h2, h3, h4⟩ := row_at tk y.2 l i x (by simpa [kidsR] using h)
    refine ⟨tk t ++ sep y.1 :: P, Q, ?_, fun r => ?_, .inr ?_, ?_⟩
    · rw [fl_cons, h1]; simp
    · rw [rput, fl_cons, h2]; simp
    · rcases h3 with ⟨rfl, rfl⟩ | ⟨P', k, rfl, h5, h6⟩
      · exact ⟨tk t, y.1, rfl, by omega, by simp [keysR]⟩
      · refine ⟨tk t ++ sep y.1 :: P', k, by simp, by omega, ?_⟩
        obtain ⟨j, rfl⟩ : ∃ j, i = j + 1 := ⟨i - 1, by omega⟩
        simpa [keysR] using h6
    · rcases h4 with ⟨rfl, rfl⟩ | ⟨Q', k, rfl, h5⟩
      · exact .inl ⟨rfl, rfl⟩
      · exact .inr ⟨Q', k, rfl, by simpa [keysR] using h5⟩
/-- two kids beside one another -/
theorem row_at2 (tk : α → List Tok) : ∀ (t : α) (l : List (Tx × α)) (i : Nat) (x y : α) (k : Tx), (kidsR (t, l))[i]? = some x → (kidsR (t, l))[i + 1]? = some y → (keysR (t, l))[i]? = some k →
    ∃ P Q, fl tk (t, l) = P ++ (tk x ++ sep k :: tk y) ++ Q ∧ ∀ r, fl tk (rjoin t l i r) = P ++ fl tk r ++ Q
  | t, [], i, x, y, k, h1, h2, h3 => by simp [kidsR] at h2
  | t, z :: l, 0, x, y, k, h1, h2, h3 => by
    have h1 : t = x := by simpa [kidsR] using h1
    have h2 : z.2 = y := by simpa [kidsR] using h2
    have h3 : z.1 = k := by simpa [keysR] using h3
    subst h1; subst h2; subst h3
    exact ⟨[], l.flatMap (fun x => sep x.1 :: tk x.2), by simp [fl], fun r => by simp [rjoin, fl]⟩
  | t, z :: l, i + 1, x, y, k, h1, h2, h3 => by
    obtain ⟨P, Q, h4, h5⟩ := row_at2 tk z.2 l i x y k (by simpa [kidsR] using h1) (by simpa [kidsR] using h2) (by simpa [keysR] using h3)
    exact ⟨tk t ++ sep z.1 :: P, Q, by rw [fl_cons, h4]; simp, fun r => by rw [rjoin, fl_cons, h5]; simp⟩
/-- a row cut in two -/
theorem row_cut (tk : α → List Tok) (t : α) (l1 : List (Tx × α)) (x : Tx × α) (l2 : List (Tx × α)) : fl tk (t, l1 ++ x :: l2) = fl tk (t, l1) ++ sep x.1 :: fl tk (x.2, l2) := by
  simp [fl]
end

/-! trees, all leaves at one depth -/
def Tr : Nat → Type
  | 0 => Nat × List En
  | d + 1 => Nat × Row (Tr d)
def atT : (d : Nat) → Tr d → Nat
  | 0, t => t.1
  | _ + 1, t => t.1
def ndT : (d : Nat) → Tr d → Nd
  | 0, t => ⟨true, t.2.map (·.1), t.2.map (·.2), []⟩
  | d + 1, t => ⟨false, keysR t.2, [], (kidsR t.2).map (atT d)⟩
def toks : (d : Nat) → Tr d → List Tok
  | 0, t => t.2.map ent
  | d + 1, t => fl (toks d) t.2
def pgs : (d : Nat) → Tr d → List Nat
  | 0, t => [t.1]
  | d + 1, t => t.1 :: (kidsR t.2).flatMap (pgs d)
/-- each page has its node -/
def On (N : Nat → Option Nd) : (d : Nat) → Tr d → Prop
  | 0, t => N t.1 = some (ndT 0 t)
  | d + 1, t => N t.1 = some (ndT (d + 1) t) ∧ ∀ c ∈ kidsR t.2, On N d c
/-- no node is without a key -/
def Ful : (d : Nat) → Tr d → Prop
  | 0, t => t.2 ≠ []
  | d + 1, t => t.2.2 ≠ [] ∧ ∀ c ∈ kidsR t.2, Ful d c
/-- no kid's node is -/
def KFul : (d : Nat) → Tr d → Prop
  | 0, _ => True
  | d + 1, t => ∀ c ∈ kidsR t.2, Ful d c
def Fit (d : Nat) (t : Tr d) : Prop := d = 0 ∨ Ful d t
theorem Ful.kful : {d : Nat} → {t : Tr d} → Ful d t → KFul d t
  | 0, _, _ => trivial
  | _ + 1, _, h => h.2
theorem Fit.kful : {d : Nat} → {t : Tr d} → Fit d t → KFul d t
  | 0, _, _ => trivial
  | _ + 1, _, .inr h => h.2
theorem ful_of {d : Nat} {t : Tr d} (h : KFul d t) (hk : (ndT d t).keys ≠ []) : Ful d t := by
  cases d with
  | zero => intro h0; apply hk; show t.2.map (·.1) = []; rw [h0]; rfl
  | succ d => exact ⟨fun h0 => hk (show t.2.2.map (·.1) = [] by rw [h0]; rfl), h⟩
theorem On.node : {N : Nat → Option Nd} → {d : Nat} → {t : Tr d} → On N d t → N (atT d t) = some (ndT d t)
  | _, 0, _, h => h
  | _, _ + 1, _, h => h.1
theorem at_mem : (d : Nat) → (t : Tr d) → atT d t ∈ pgs d t
  | 0, t => List.mem_singleton_self _
  | _ + 1, t => List.mem_cons_self ..
theorem On.congr {N N' : Nat → Option Nd} : {d : Nat} → {t : Tr d} → On N d t → (∀ k ∈ pgs d t, N' k = N k) → On N' d t
  | 0, t, h, hk => (hk _ (at_mem 0 t)).trans h
  | d + 1, t, h, hk => ⟨(hk _ (at_mem (d + 1) t)).trans h.1, fun c hc => (h.2 c hc).congr (fun k hkc => hk k (List.mem_cons_of_mem _ (List.mem_flatMap.2 ⟨c, hc, hkc⟩)))⟩
theorem On.used {N : Nat → Option Nd} : {d : Nat} → {t : Tr d} → On N d t → ∀ k ∈ pgs d t, (N k).isSome = true
  | 0, t, h, k, hk => by rw [List.mem_singleton.1 hk, show N t.1 = _ from h]; rfl
  | d + 1, t, h, k, hk => by
    rcases List.mem_cons.1 hk with rfl | hk
    · rw [h.1]; rfl
    · obtain ⟨c, hc, hk⟩ := List.mem_flatMap.1 hk
      exact (h.2 c hc).used k hk

/-- a full tree has an entry; its pages are fewer than twice its entries -/
theorem ful_count : (d : Nat) → (t : Tr d) → Ful d t → (pgs d t).length + 1 ≤ 2 * (ents (toks d t)).length ∧ 2 ^ d ≤ (ents (toks d t)).length
  | 0, t, h => by
    have hl : 0 < t.2.length := List.length_pos_iff.2 h
    show ([t.1] : List Nat).length + 1 ≤ 2 * (ents (t.2.map ent)).length ∧ 1 ≤ (ents (t.2.map ent)).length
    rw [ents_leaf, List.length_singleton]; omega
  | d + 1, t, h => by
    obtain ⟨h1, h2⟩ := h
    obtain ⟨pg, t0, l⟩ := t
    have key : ∀ (l : List (Tx × Tr d)) (t0 : Tr d), (∀ c ∈ kidsR (t0, l), Ful d c) → ((kidsR (t0, l)).flatMap (pgs d)).length + 1 + l.length ≤ 2 * (ents (fl (toks d) (t0, l))).length ∧ (l.length + 1) * 2 ^ d ≤ (ents (fl (toks d) (t0, l))).length := by
      intro l
      induction l with
      | nil =>
        intro t0 h
        have := ful_count d t0 (h t0 (List.mem_cons_self ..))
        simp [kidsR, fl]; omega
      | cons x l ih =>
        intro t0 h
        have i1 := ih x.2 (fun c hc => h c (List.mem_cons_of_mem _ hc))
        have i2 := ful_count d t0 (h t0 (List.mem_cons_self ..))
        rw [fl_cons, ents_app, ents_sep, List.length_append]
        have e : kidsR (t0, x :: l) = t0 :: kidsR (x.2, l) := rfl
        rw [e, List.flatMap_cons, List.length_append, List.length_cons, Nat.add_mul (l.length + 1) 1]
        omega
    have hk := key l t0 h2
    have hl : 1 ≤ l.length := List.length_pos_iff.2 h1
    show (pg :: (kidsR (t0, l)).flatMap (pgs d)).length + 1 ≤ 2 * (ents (fl (toks d) (t0, l))).length ∧ _ ≤ (ents (fl (toks d) (t0, l))).length
    rw [List.length_cons]
    refine ⟨by omega, Nat.le_trans ?_ hk.2⟩
    rw [Nat.pow_succ, Nat.mul_comm]
    exact Nat.mul_le_mul_right _ (by omega)
theorem fit_count {d : Nat} {t : Tr d} (h : Fit d t) : (pgs d t).length ≤ 1 + 2 * (ents (toks d t)).length ∧ (d = 0 ∨ 2 ^ d ≤ (ents (toks d t)).length) := by
  rcases h with rfl | h
  · refine ⟨?_, .inl rfl⟩
    show ([t.1] : List Nat).length ≤ _
    rw [List.length_singleton]; omega
  · have := ful_count d t h
    exact ⟨by omega, .inr this.2⟩

/-- which pages a change takes, and gives: elsewhere nothing is turned -/
structure Upd (N N' : Nat → Option Nd) (ps ps' : List Nat) : Prop where
  same : ∀ k, k ∉ ps → k ∉ ps' → N' k = N k
  new : ∀ k ∈ ps', k ∈ ps ∨ N k = none
  gone : ∀ k ∈ ps, k ∉ ps' → N' k = none
  nodup : ps'.Nodup

end Go.Proofs.Ytdilkgcoecipjaa

namespace Go.Proofs.Ytdilkgcoecipjaa
open Go.RowKit
set_option linter.unusedVariables false

def tv (l : List Tx) : List Value := l.map fun t => .string (B t)
def kv (l : List Nat) : List Value := l.map fun k : Nat => Value.int .i64 (k : Int)
theorem tv_len (l : List Tx) : (tv l).length = l.length := by simp [tv]
theorem kv_len (l : List Nat) : (kv l).length = l.length := by simp [kv]
theorem tv_app (a b : List Tx) : tv (a ++ b) = tv a ++ tv b := List.map_append
theorem kv_app (a b : List Nat) : kv (a ++ b) = kv a ++ kv b := List.map_append
theorem tv_one (l : List Tx) : ∀ u ∈ tv l, u.oneCell' = true := by
  intro u hu; obtain ⟨t, _, rfl⟩ := List.mem_map.1 hu; rfl
theorem kv_one (l : List Nat) : ∀ u ∈ kv l, u.oneCell' = true := by
  intro u hu; obtain ⟨t, _, rfl⟩ := List.mem_map.1 hu; rfl
theorem tv_get {l : List Tx} {i : Nat} {t : Tx} (h : l[i]? = some t) : (tv l)[i]? = some (.string (B t)) := by simp [tv, h]
theorem kv_get {l : List Nat} {i : Nat} {t : Nat} (h : l[i]? = some t) : (kv l)[i]? = some (.int .i64 (t : Int)) := by simp [kv, h]

abbrev TN : TypeId := 59
abbrev TSt : TypeId := 9
abbrev TSs : TypeId := 33
abbrev TIs : TypeId := 44
abbrev TI : TypeId := 3
abbrev TU : TypeId := 5

/-- a node's value: what its slices lead to -/
structure NdAt (w : World) (lf : Bool) (pk : Option Addr) (ck : Nat) (pv : Option Addr) (cv : Nat) (pd : Option Addr) (cd : Nat) (n : Nd) : Prop where
  lf : n.leaf = lf
  keys : Rd w 1 (.slice pk n.keys.length ck) n.keys.length (tv n.keys)
  vals : Rd w 1 (.slice pv n.vals.length cv) n.vals.length (tv n.vals)
  kids : Rd w 1 (.slice pd n.kids.length cd) n.kids.length (kv n.kids)
def ndV (lf : Bool) (pk : Option Addr) (nk ck : Nat) (pv : Option Addr) (nv cv : Nat) (pd : Option Addr) (nd cd : Nat) : Value := .agg #[.bool lf, .slice pk nk ck, .slice pv nv cv, .slice pd nd cd]
theorem NdAt.new {w w' : World} {lf : Bool} {pk pv pd : Option Addr} {ck cv cd : Nat} {n : Nd} (h : NdAt w lf pk ck pv cv pd cd n) (hb : Below w.heap.size w w') : NdAt w' lf pk ck pv cv pd cd n :=
  ⟨h.lf, h.keys.new hb, h.vals.new hb, h.kids.new hb⟩

/-- a text among those that are read -/
theorem rd_text {w : World} {p : Option Addr} {c : Nat} {l : List Tx} (h : Rd w 1 (.slice p l.length c) l.length (tv l)) {i : Nat} (hi : i < l.length) :
    ∃ b o, p = some ⟨b, o, none⟩ ∧ w.cell? ⟨b, o + i, none⟩ = some (.string (B l[i])) := by
  obtain ⟨b, o, rfl, hc⟩ := h.addr (by omega)
  exact ⟨b, o, rfl, hc i _ (tv_get (List.getElem?_eq_getElem hi))⟩
theorem rd_num {w : World} {p : Option Addr} {c : Nat} {l : List Nat} (h : Rd w 1 (.slice p l.length c) l.length (kv l)) {i : Nat} (hi : i < l.length) :
    ∃ b o, p = some ⟨b, o, none⟩ ∧ w.cell? ⟨b, o + i, none⟩ = some (.int .i64 (l[i] : Int)) := by
  obtain ⟨b, o, rfl, hc⟩ := h.addr (by omega)
  exact ⟨b, o, rfl, hc i _ (kv_get (List.getElem?_eq_getElem hi))⟩

theorem sum_take {l : List Nat} {i x : Nat} (h : l[i]? = some x) : (l.take (i + 1)).sum = (l.take i).sum + x := by
  rw [List.take_add_one, h]; simp
theorem sum_take_le (l : List Nat) (i : Nat) : (l.take i).sum ≤ l.sum := by
  have h : (l.take i).sum + (l.drop i).sum = l.sum := by rw [← List.sum_append, List.take_append_drop]
  omega
theorem cost_leaf {n : Nd} (hl : n.leaf = true) (hv : n.vals.length = n.keys.length) {i : Nat} (hi : i < n.keys.length) : (costs n)[i]? = some (2 + n.keys[i].length + (n.vals[i]'(by omega)).length) := by
  unfold costs
  have hz : (n.keys.zip n.vals)[i]? = some (n.keys[i], n.vals[i]'(by omega)) := List.getElem?_zip_eq_some.2 ⟨List.getElem?_eq_getElem hi, List.getElem?_eq_getElem (by omega)⟩
  rw [if_pos hl, List.getElem?_map, hz]
  rfl
theorem cost_inner {n : Nd} (hl : n.leaf = false) {i : Nat} (hi : i < n.keys.length) : (costs n)[i]? = some (1 + n.keys[i].length) := by
  unfold costs
  rw [if_neg (by rw [hl]; simp), List.getElem?_map, List.getElem?_eq_getElem hi]
  rfl

theorem costs_len2 {n : Nd} (hv : n.leaf = true → n.vals.length = n.keys.length) : (costs n).length = n.keys.length := by
  unfold costs
  split
  · rename_i hl
    rw [List.length_map, List.length_zip, hv hl, Nat.min_self]
  · rw [List.length_map]

set_option maxRecDepth 100000 in
set_option maxHeartbeats 2000000 in
theorem size_any (w : World) (n : Nd) (lf : Bool) (pk : Option Addr) (ck : Nat) (pv : Option Addr) (cv : Nat) (pd : Option Addr) (cd : Nat) (h : NdAt w lf pk ck pv cv pd cd n) (hv : n.leaf = true → n.vals.length = n.keys.length) (hs : sizeP n ≤ 100000) :
    Calls Try.prog 88 #[ndV lf pk n.keys.length ck pv n.vals.length cv pd n.kids.length cd] w fun e w' => e = .returned (.int .i64 (sizeP n : Int)) ∧ Below w.heap.size w w' := by
  have H := hid h
  have HV := hid hv
  have hlf := h.lf
  clear h hv
  have hsz : 2 + 2 * n.kids.length + (costs n).sum ≤ 100000 := hs
  have hcl : n.keys.length ≤ (costs n).sum + 2 := by
    have h1 := len_le_sum _ (costs_pos n)
    rw [costs_len2 HV.out] at h1
    omega
  obtain ⟨S, hS⟩ : ∃ S, (costs n).sum = S := ⟨_, rfl⟩
  have HSs := hid hS
  obtain ⟨nk, hnk⟩ : ∃ m, n.keys.length = m := ⟨_, rfl⟩
  obtain ⟨nv, hnv⟩ : ∃ m, n.vals.length = m := ⟨_, rfl⟩
  obtain ⟨nd, hnd⟩ : ∃ m, n.kids.length = m := ⟨_, rfl⟩
  have hgoal : sizeP n = 2 + 2 * nd + S := by unfold sizeP; rw [hnd, hS]
  rw [hgoal, hnk, hnv, hnd]
  rw [hS] at hcl
  rw [hnk] at hcl
  rw [hnd, hS] at hsz
  have HNK := hid hnk
  have HNV := hid hnv
  have HND := hid hnd
  clear hS hgoal hnk hnv hnd hs
  unfold ndV
  go_enter Try.func88, Try.ntmps88
  go_wp2_with fail
  go_loopw [3, 14] (fun vo vi wr => ∃ (i o : Nat), vo = .int .i64 o ∧ vi = .int .i64 i ∧ i ≤ nk ∧ o ≤ 100000 ∧ Hid (o = 2 + 2 * nd + ((costs n).take i).sum) ∧ Hid (Below w.heap.size w wr) ∧ wr.cell? ⟨w.heap.size, 0, none⟩ = some (.bool lf) ∧ wr.cell? ⟨w.heap.size, 2, none⟩ = some (.slice pv nv cv)) (fun vo vi _ => nk - (intOf vi).toNat)
  case atStart => exact ⟨0, 2 + 2 * nd, by first | rfl | (congr 1; omega), rfl, Nat.zero_le _, by omega, hid (by simp), hid ((Below.refl _ _).alloc (Nat.le_refl _) _), by first | assumption | simp, by first | assumption | simp⟩
  case round =>
    obtain ⟨i, o, rfl, rfl, hi, ho, HO, HB, c0, c2⟩ := hrel
    by_cases hlt : i < nk
    · have hlt2 : (i : Int) < (nk : Int) := by omega
      obtain ⟨bk, ok, rfl, hck0⟩ := rd_text H.out.keys (i := i) (by rw [HNK.out]; exact hlt)
      obtain ⟨k, hk⟩ : ∃ k, n.keys[i]'(by rw [HNK.out]; exact hlt) = k := ⟨_, rfl⟩
      rw [hk] at hck0
      have hlk := World.block_lt_of_cell? w _ hck0
      have hck : wr.cell? ⟨bk, ok + i, none⟩ = some (.string (B k)) := (HB.out.cell (p := ⟨bk, ok + i, none⟩) hlk).trans hck0
      have HK := hid hk
      clear hk hck0
      cases lf
      case' true =>
        have hcs := sum_take (cost_leaf hlf (HV.out hlf) (i := i) (by rw [HNK.out]; exact hlt))
        rw [HK.out] at hcs
        obtain ⟨bv, ov, rfl, hcv0⟩ := rd_text H.out.vals (i := i) (by rw [HV.out hlf, HNK.out]; exact hlt)
        obtain ⟨u, hu⟩ : ∃ u, n.vals[i]'(by rw [HV.out hlf, HNK.out]; exact hlt) = u := ⟨_, rfl⟩
        rw [hu] at hcv0 hcs
        have hlv := World.block_lt_of_cell? w _ hcv0
        have hcv : wr.cell? ⟨bv, ov + i, none⟩ = some (.string (B u)) := (HB.out.cell (p := ⟨bv, ov + i, none⟩) hlv).trans hcv0
        have hle := sum_take_le (costs n) (i + 1)
        rw [HSs.out] at hle
        have hvi : (i : Int) < (nv : Int) := by have := HV.out hlf; rw [HNK.out, HNV.out] at this; omega
        obtain ⟨o2, ho2⟩ : ∃ o2 : Nat, o + (1 + k.length) + (1 + u.length) = o2 := ⟨_, rfl⟩
        have HO2 := hid (show o2 = 2 + 2 * nd + ((costs n).take (i + 1)).sum by have := HO.out; omega)
        have ho3 : o2 ≤ 100000 := by have := HO2.out; omega
        clear hcs hcv0 hu hle
      case' false =>
        have hcs := sum_take (cost_inner hlf (i := i) (by rw [HNK.out]; exact hlt))
        rw [HK.out] at hcs
        have hle := sum_take_le (costs n) (i + 1)
        rw [HSs.out] at hle
        obtain ⟨o2, ho2⟩ : ∃ o2 : Nat, o + (1 + k.length) = o2 := ⟨_, rfl⟩
        have HO2 := hid (show o2 = 2 + 2 * nd + ((costs n).take (i + 1)).sum by have := HO.out; omega)
        have ho3 : o2 ≤ 100000 := by have := HO2.out; omega
        clear hcs hle
      all_goals
        go_wp2_with fail
        go_roundw
        case rel => exact ⟨i + 1, o2, by congr 1; omega, rfl, hlt, ho3, HO2, HB, c0, c2⟩
        case measure => simp [intOf]; omega
    · have hlt2 : ¬ (i : Int) < (nk : Int) := by omega
      go_wp2_with fail
      go_ret
      refine ⟨?_, HB.out⟩
      have h1 := HO.out
      rw [show i = nk by omega, List.take_of_length_le (by rw [costs_len2 HV.out, HNK.out]; exact Nat.le_refl _), HSs.out] at h1
      rw [h1]
      exact congrArg (fun x => Ending.returned (Value.int .i64 x)) (show ((2 + 2 * nd + S : Nat) : Int) = 2 + 2 * (nd : Int) + (S : Int) by omega)
end Go.Proofs.Ytdilkgcoecipjaa

namespace Go.Proofs.Ytdilkgcoecipjaa
open Go.RowKit
set_option linter.unusedVariables false

theorem infoU8s : (Try.prog.info? TU).map (fun i => (i.zero, i.size, i.bytes)) = some (some (.int .u8 0), 1, 1) := by kernel_rfl
theorem u8_nat (k : Nat) : IntKind.u8.wrap (k : Int) = ((UInt8.ofNat k).toNat : Int) := by
  rw [UInt8.toNat_ofNat']
  simp [IntKind.wrap, IntKind.bits, IntKind.signed]

/-- two slices of different blocks -/
def NeB (v u : Value) : Prop := ∀ g, v.ownBlock = some g → u.ownBlock ≠ some g
theorem NeB.symm {v u : Value} (h : NeB v u) : NeB u v := fun g h1 h2 => h g h2 h1
theorem rd_grown {w w' : World} {size n : Nat} {v u : Value} {xs : List Value} (h : Rd w size v n xs) (hg : w.grownBy w' u.ownBlock) (hn : NeB v u) : Rd w' size v n xs :=
  h.chg (Chg.grown hg) (fun _ g h1 _ h2 => hn g h1 h2)
theorem own_below {B0 : Nat} {w w' : World} {e : TypeId} {size n : Nat} {v : Value} {xs : List Value} (h : w.ownsRow B0 e size v n xs) (hg : w.grownBy w' v.ownBlock) (hB : B0 ≤ w.heap.size) : Below B0 w w' :=
  (Below.refl B0 w).grown hg hB (by
    intro k hk
    rcases h.2 with ⟨rfl, _⟩ | ⟨g, cap, cur, rfl, hbg, hb, _⟩
    · cases hk
    · cases hk; exact hbg)
theorem own_new {B0 size n : Nat} {e : TypeId} {w w' : World} {v : Value} {xs : List Value} (h : w.ownsRow B0 e size v n xs) (hb : Below w.heap.size w w') : w'.ownsRow B0 e size v n xs := by
  refine ⟨h.1, ?_⟩
  rcases h.2 with h2 | ⟨g, cap, cur, h1, h2, h3, h4⟩
  · exact .inl h2
  · exact .inr ⟨g, cap, cur, h1, h2, (Chg.new hb NoFp).heap h3 (fun h => h), h4⟩
theorem own_lt {B0 size n : Nat} {e : TypeId} {w : World} {v : Value} {xs : List Value} (h : w.ownsRow B0 e size v n xs) : ∀ g, v.ownBlock = some g → B0 ≤ g ∧ g < w.heap.size := by
  intro g hg
  rcases h.2 with ⟨rfl, _⟩ | ⟨g1, cap, cur, rfl, hb, h3, _⟩
  · cases hg
  · cases hg; exact ⟨hb, (Array.getElem?_eq_some_iff.1 h3).1⟩
theorem neB_next {w : World} {v v' u : Value} (h : NeB u v) (hu : ∀ g, u.ownBlock = some g → g < w.heap.size) (hv : v'.ownBlock = v.ownBlock ∨ v'.ownBlock = some w.heap.size) : NeB u v' := by
  intro g h1 h2
  rcases hv with hv | hv
  · exact h g h1 (hv ▸ h2)
  · rw [hv] at h2; have := hu g h1; cases h2; omega
theorem own_ne {B0 B1 s1 s2 n m : Nat} {e1 e2 : TypeId} {w : World} {v u : Value} {xs ys : List Value} (h : w.ownsRow B0 e1 s1 v n xs) (k : w.ownsRow B1 e2 s2 u m ys) (he : e1 ≠ e2) : NeB v u := by
  intro g hg hu
  rcases h.2 with ⟨rfl, _⟩ | ⟨g1, cap, cur, rfl, _, h3, _⟩
  · cases hg
  · cases hg
    rcases k.2 with ⟨rfl, _⟩ | ⟨g2, cap2, cur2, rfl, _, h4, _⟩
    · cases hu
    · cases hu
      rw [h3] at h4
      have h5 := Option.some.inj h4
      injection h5 with h6 h7 h8
      exact he h7
theorem own_blk_ne {B0 size n g : Nat} {e e2 : TypeId} {w : World} {v : Value} {xs ys : List Value} (h : w.ownsRow B0 e size v n xs) (k : Blk w g ys e2) (he : e ≠ e2) : v.ownBlock ≠ some g := by
  intro hg
  rcases h.2 with ⟨rfl, _⟩ | ⟨g1, cap, cur, rfl, hb, h3, _⟩
  · cases hg
  · cases hg
    have h4 := k
    unfold Blk at h4
    rw [h3] at h4
    have h5 := Option.some.inj h4
    injection h5 with h6 h7 h8
    exact he h7

set_option maxRecDepth 100000 in
set_option maxHeartbeats 2000000 in
theorem lay_any (w : World) (B0 : Nat) (pb : Option Addr) (cb : Nat) (b : Tx) (l : List Tx) (g m0 m1 ll : Nat) (out : Tx) (hb : w.ownsRow B0 TU 1 (.slice pb m0 cb) m0 (bv b)) (hl : Blk w g (tv l) TSt) (hll : l.length = ll) (hB : B0 ≤ w.heap.size)
    (hm0 : b.length = m0) (hm1 : out.length = m1) (hout : b ++ l.flatMap encT = out) (hs : m1 ≤ 100000) (hll2 : ll ≤ 100000) :
    Calls Try.prog 43 #[.slice pb m0 cb, .slice (some ⟨g, 0, none⟩) ll ll] w fun e w' => ∃ p c, e = .returned (.slice p m1 c) ∧ w'.ownsRow B0 TU 1 (.slice p m1 c) m1 (bv out) ∧ Below B0 w w' := by
  have HL := hid hl
  have HO := hid hb
  have HLL := hid hll
  have HM0 := hid hm0
  have HM1 := hid hm1
  have HOUT := hid hout
  have hm01 : m0 ≤ 100000 := by
    have := congrArg List.length hout
    rw [List.length_append] at this
    omega
  clear hl hb hll hm0 hm1 hout
  go_enter Try.func43, Try.ntmps43
  go_wp2_with fail
  go_loopw [0, 9] (fun vb vi wr => ∃ (i m : Nat) (p : Option Addr) (c : Nat), vb = .slice p m c ∧ vi = .int .i64 i ∧ i ≤ ll ∧ m ≤ 100000 ∧ w.heap.size ≤ wr.heap.size ∧ Hid (m = (b ++ (l.take i).flatMap encT).length) ∧ Hid (wr.ownsRow B0 TU 1 (.slice p m c) m (bv (b ++ (l.take i).flatMap encT))) ∧ Hid (Below B0 w wr) ∧
    Hid (Blk wr g (tv l) TSt)) (fun vb vi _ => ll - (intOf vi).toNat)
  case atStart => exact ⟨0, m0, pb, cb, rfl, rfl, Nat.zero_le _, hm01, Nat.le_refl _, hid (by simp [HM0.out]), hid (by simpa using HO.out), Below.refl _ _, HL⟩
  case round =>
    obtain ⟨i, m, p, c, rfl, rfl, hi, hm, hB1, HM, HO1, HB, HBL⟩ := hrel
    by_cases hlt : i < ll
    · have hlt2 : (i : Int) < (ll : Int) := by omega
      obtain ⟨k, hk⟩ : ∃ k, l[i]'(by rw [HLL.out]; exact hlt) = k := ⟨_, rfl⟩
      have hck : wr.cell? ⟨g, i, none⟩ = some (.string (B k)) := by
        rw [HBL.out.cell]
        exact tv_get (by rw [← hk]; exact List.getElem?_eq_getElem _)
      have HKS := hid (show (b ++ (l.take (i + 1)).flatMap encT) = (b ++ (l.take i).flatMap encT) ++ [UInt8.ofNat k.length] ++ k by
        rw [List.take_add_one, List.getElem?_eq_getElem (by rw [HLL.out]; exact hlt), hk]
        simp [encT])
      have HKL := hid (show m + 1 + k.length ≤ 100000 by
        have h2 : ((l.take (i + 1)).flatMap encT).length ≤ (l.flatMap encT).length := by
          have h3 : l.flatMap encT = (l.take (i + 1)).flatMap encT ++ (l.drop (i + 1)).flatMap encT := by rw [← List.flatMap_append, List.take_append_drop]
          rw [h3, List.length_append]; omega
        have h4 := congrArg List.length HKS.out
        have h5 := HM.out
        have h6 := HM0.out
        have h7 := congrArg List.length HOUT.out
        have h8 := HM1.out
        simp only [List.length_append, List.length_cons, List.length_nil] at h4 h5 h7
        omega)
      have HUK := hid (show Value.int .u8 ((k.length : Int) % 256) = .int .u8 ((UInt8.ofNat k.length).toNat : Int) by rw [UInt8.toNat_ofNat']; rfl)
      clear hk
      go_wp2_with (at_builtin; refine wp_keep ?_)
      refine hid ?_
      refine wpList_append_rd rfl _ _ 30 rfl B0 TU _ 1 1 Try.underlying30 infoU8s rfl (by decide) _ _ _ rfl (own_new HO1.out ((Below.refl _ _).alloc (Nat.le_refl _) _)) _ 1 [.int .u8 ((k.length : Int) % 256)] rfl (Rd.fresh1 _ _ _) (by simp [Value.oneCell']) (by simp only [maxLen]; omega) (by omega) (by simp; omega) ?_
      intro p2 c2 w2 ho2 hg2 _
      have HO1a := hid (own_new HO1.out ((Below.refl _ _).alloc (Nat.le_refl _) (.cells #[.int .u8 ((k.length : Int) % 256)] TU)))
      have HB2 := hid ((HB.out.alloc (by omega) (.cells #[.int .u8 ((k.length : Int) % 256)] TU)).trans (own_below HO1a.out hg2 (by simp; omega)))
      have HBLa := hid (HBL.out.chg (Chg.alloc NoFp _ (.cells #[.int .u8 ((k.length : Int) % 256)] TU)) (fun h => h))
      have HBL2 := hid (HBLa.out.chg (Chg.grown hg2) (own_blk_ne HO1a.out HBLa.out (by decide)))
      rw [HUK.out] at ho2
      have ho2b : w2.ownsRow B0 TU 1 (.slice p2 (m + 1) c2) (m + 1) (bv ((b ++ (l.take i).flatMap encT) ++ [UInt8.ofNat k.length])) := by rw [bv_append]; exact ho2
      have hs2 : w.heap.size ≤ w2.heap.size := HB2.out.size
      have HO2 := hid ho2b
      clear ho2 hg2 ho2b HBLa HO1a
      go_wp2_with (at_builtin; refine wp_keep ?_)
      refine hid ?_
      refine wpList_append_str rfl _ _ 30 9 rfl B0 TU Try.underlying30 Try.underlying9 infoU8s _ _ _ rfl HO2.out _ rfl (by rw [B_size]; have := HKL.out; omega) (by omega) ?_
      intro p3 c3 w3 ho3 hg3
      rw [B_size, B_data, ← bv_append, ← HKS.out] at ho3
      rw [B_size]
      have HB3 := hid (HB2.out.trans (own_below HO2.out hg3 (by omega)))
      have HBL3 := hid (HBL2.out.chg (Chg.grown hg3) (own_blk_ne HO2.out HBL2.out (by decide)))
      have HO3 := hid ho3
      have hs3 : w.heap.size ≤ w3.heap.size := HB3.out.size
      obtain ⟨m3, hm3⟩ : ∃ m3, m + 1 + k.length = m3 := ⟨_, rfl⟩
      rw [hm3] at HO3 HKL ⊢
      have HM3 := hid hm3
      have hm3b : m3 ≤ 100000 := HKL.out
      clear ho3 hg3 hm3
      go_wp2_with fail
      go_roundw
      case rel => exact ⟨i + 1, m3, p3, c3, rfl, by first | rfl | (congr 1; omega) | (congr 1), hlt, hm3b, hs3, hid (by rw [← HM3.out, HKS.out]; simp only [List.length_append, List.length_cons, List.length_nil]; have := HM.out; simp only [List.length_append] at this; omega), HO3, HB3, HBL3⟩
      case measure => simp [intOf]; omega
    · have hlt2 : ¬ (i : Int) < (ll : Int) := by omega
      go_wp2_with fail
      go_ret
      have h1 := HO1.out
      have h2 := HM.out
      rw [List.take_of_length_le (by rw [HLL.out]; omega), HOUT.out] at h1 h2
      rw [HM1.out] at h2
      subst h2
      exact ⟨p, c, rfl, h1, HB.out⟩

/-- the texts of the first keys -/
def pre (n : Nd) (i : Nat) : Tx := if n.leaf then ((n.keys.zip n.vals).take i).flatMap (fun e => encT e.1 ++ encT e.2) else (n.keys.take i).flatMap encT
def front (n : Nd) : Tx := [if n.leaf then 1 else 2, UInt8.ofNat n.keys.length]
theorem pre_zero (n : Nd) : pre n 0 = [] := by unfold pre; split <;> simp
theorem pre_all {n : Nd} {i : Nat} (hi : n.keys.length ≤ i) : pre n i = bodyP n := by
  unfold pre bodyP
  split
  · rw [List.take_of_length_le (by rw [List.length_zip]; omega)]
  · rw [List.take_of_length_le hi]
theorem pre_le (n : Nd) (i : Nat) : (pre n i).length ≤ (bodyP n).length := by
  unfold pre bodyP
  split
  · generalize (n.keys.zip n.vals) = z
    have h3 : z.flatMap (fun e => encT e.1 ++ encT e.2) = (z.take i).flatMap (fun e => encT e.1 ++ encT e.2) ++ (z.drop i).flatMap (fun e => encT e.1 ++ encT e.2) := by rw [← List.flatMap_append, List.take_append_drop]
    rw [h3, List.length_append]; omega
  · generalize n.keys = z
    have h3 : z.flatMap encT = (z.take i).flatMap encT ++ (z.drop i).flatMap encT := by rw [← List.flatMap_append, List.take_append_drop]
    rw [h3, List.length_append]; omega
theorem pre_leaf {n : Nd} (hl : n.leaf = true) (hv : n.vals.length = n.keys.length) {i : Nat} (hi : i < n.keys.length) : pre n (i + 1) = pre n i ++ [n.keys[i], n.vals[i]'(by omega)].flatMap encT := by
  unfold pre
  have hz : (n.keys.zip n.vals)[i]? = some (n.keys[i], n.vals[i]'(by omega)) := List.getElem?_zip_eq_some.2 ⟨List.getElem?_eq_getElem hi, List.getElem?_eq_getElem (by omega)⟩
  rw [if_pos hl, if_pos hl, List.take_add_one, hz]
  simp
theorem pre_inner {n : Nd} (hl : n.leaf = false) {i : Nat} (hi : i < n.keys.length) : pre n (i + 1) = pre n i ++ [n.keys[i]].flatMap encT := by
  unfold pre
  rw [if_neg (by rw [hl]; simp), if_neg (by rw [hl]; simp), List.take_add_one, List.getElem?_eq_getElem hi, Option.toList_some, List.flatMap_append]
theorem enc_front (n : Nd) : enc n = front n ++ bodyP n ++ n.kids.flatMap le2 := by simp [enc, front]

theorem own_base {B0 B1 size n : Nat} {e : TypeId} {w : World} {v : Value} {xs : List Value} (h : w.ownsRow B1 e size v n xs) (hb : B0 ≤ B1) : w.ownsRow B0 e size v n xs := by
  refine ⟨h.1, ?_⟩
  rcases h.2 with h2 | ⟨g, cap, cur, h1, h2, h3⟩
  · exact .inl h2
  · exact .inr ⟨g, cap, cur, h1, by omega, h3⟩
set_option maxRecDepth 100000 in
set_option maxHeartbeats 4000000 in
theorem bytes_leaf (w : World) (n : Nd) (pk : Option Addr) (nk ck : Nat) (pv : Option Addr) (nv cv : Nat) (pd : Option Addr) (nd cd : Nat) (h : NdAt w true pk ck pv cv pd cd n) (hnk : n.keys.length = nk) (hnv : n.vals.length = nv) (hnd : n.kids.length = nd) (hv : n.leaf = true → n.vals.length = n.keys.length) (hs : sizeP n ≤ 100000) :
    Calls Try.prog 26 #[ndV true pk nk ck pv nv cv pd nd cd] w fun e w' => ∃ p c, e = .returned (.slice p (enc n).length c) ∧ w'.ownsRow w.heap.size TU 1 (.slice p (enc n).length c) (enc n).length (bv (enc n)) ∧ Below w.heap.size w w' := by
  have H := hid h
  have HVL := hid hv
  have hlf := h.lf
  have HNK := hid hnk
  have HNV := hid hnv
  have HND := hid hnd
  have hE := enc_length n
  obtain ⟨E, hEE⟩ : ∃ E, (enc n).length = E := ⟨_, rfl⟩
  rw [hEE] at hE ⊢
  rw [← hE] at hs
  have HE := hid hEE
  have HBD := hid (show 2 + (bodyP n).length + 2 * nd = E by
    have h1 := enc_front n
    have h2 := congrArg List.length h1
    rw [hEE, List.length_append, List.length_append, flatMap_le2, hnd] at h2
    simp only [front, List.length_cons, List.length_nil] at h2
    omega)
  have hKE : nk ≤ E := by
    have h1 := len_le_sum _ (costs_pos n)
    rw [costs_len2 hv, hnk, ← bodyP_length] at h1
    have := HBD.out
    omega
  have hDE : nd ≤ E := by have := HBD.out; omega
  have HFR := hid (show [Value.int .u8 1, .int .u8 ((nk : Int) % 256)] = bv (front n) by
    unfold front
    rw [hlf, hnk]
    simp [bv, UInt8.toNat_ofNat'])
  clear h hv hnk hnv hnd hE hEE
  unfold ndV
  go_enter Try.func26, Try.ntmps26
  go_wp2_with fail
  obtain ⟨w1, hw1⟩ : ∃ x, ((w.alloc (.cells #[.bool true, .slice pk nk ck, .slice pv nv cv, .slice pd nd cd] 59)).alloc (.cells #[.int .u8 1, .int .u8 ((nk : Int) % 256)] 5)) = x := ⟨_, rfl⟩
  rw [hw1]
  have a0 : w1.cell? ⟨w.heap.size, 0, none⟩ = some (.bool true) := by rw [← hw1]; simp
  have a1 : w1.cell? ⟨w.heap.size, 1, none⟩ = some (.slice pk nk ck) := by rw [← hw1]; simp
  have a2 : w1.cell? ⟨w.heap.size, 2, none⟩ = some (.slice pv nv cv) := by rw [← hw1]; simp
  have a3 : w1.cell? ⟨w.heap.size, 3, none⟩ = some (.slice pd nd cd) := by rw [← hw1]; simp
  have hs1 : w1.heap.size = w.heap.size + 2 := by rw [← hw1]; simp
  have HB1 : Hid (Below w.heap.size w w1) := hid (by rw [← hw1]; exact ((Below.refl _ _).alloc (Nat.le_refl _) _).alloc (by simp) _)
  have HO1 : Hid (w1.ownsRow (w.heap.size + 1) TU 1 (.slice (some ⟨w.heap.size + 1, 0, none⟩) 2 2) 2 (bv (front n))) := hid (by
    rw [← hw1, ← HFR.out]
    have := own_fresh (w.alloc (.cells #[.bool true, .slice pk nk ck, .slice pv nv cv, .slice pd nd cd] 59)) [.int .u8 1, .int .u8 ((nk : Int) % 256)] TU 2 rfl (by simp [maxLen]) (w.heap.size + 1) (by simp)
    simpa using this)
  clear hw1
  go_loopw [3, 20] (fun vb vi wr => ∃ (i m : Nat) (p : Option Addr) (c : Nat), vb = .slice p m c ∧ vi = .int .i64 i ∧ i ≤ nk ∧ m ≤ 100000 ∧ w.heap.size + 2 ≤ wr.heap.size ∧ wr.cell? ⟨w.heap.size, 0, none⟩ = some (.bool true) ∧ wr.cell? ⟨w.heap.size, 1, none⟩ = some (.slice pk nk ck) ∧ wr.cell? ⟨w.heap.size, 2, none⟩ = some (.slice pv nv cv) ∧ wr.cell? ⟨w.heap.size, 3, none⟩ = some (.slice pd nd cd) ∧
    Hid (m = (front n ++ pre n i).length) ∧ Hid (wr.ownsRow (w.heap.size + 1) TU 1 (.slice p m c) m (bv (front n ++ pre n i))) ∧ Hid (Below w.heap.size w wr)) (fun vb vi _ => nk - (intOf vi).toNat)
  case atStart => exact ⟨0, 2, _, _, rfl, rfl, Nat.zero_le _, by omega, by omega, a0, a1, a2, a3, hid (by simp [front, pre_zero]), hid (by rw [pre_zero, List.append_nil]; exact HO1.out), HB1⟩
  case round =>
    obtain ⟨i, m, p, c, rfl, rfl, hi, hm, hsr, c0, c1, c2, c3, HM, HO, HB⟩ := hrel
    by_cases hlt : i < nk
    · have hlt2 : (i : Int) < (nk : Int) := by omega
      obtain ⟨bk, ok, hpk, hck0⟩ := rd_text H.out.keys (i := i) (by rw [HNK.out]; exact hlt)
      obtain ⟨k, hk⟩ : ∃ k, n.keys[i]'(by rw [HNK.out]; exact hlt) = k := ⟨_, rfl⟩
      obtain ⟨bv', ov, hpv, hcv0⟩ := rd_text H.out.vals (i := i) (by rw [HVL.out hlf, HNK.out]; exact hlt)
      obtain ⟨u, hu⟩ : ∃ u, n.vals[i]'(by rw [HVL.out hlf, HNK.out]; exact hlt) = u := ⟨_, rfl⟩
      have HP := hid (pre_leaf hlf (HVL.out hlf) (i := i) (by rw [HNK.out]; exact hlt))
      rw [hk] at hck0
      rw [hu] at hcv0
      rw [hk, hu] at HP
      have hvi : (i : Int) < (nv : Int) := by have := HVL.out hlf; rw [HNK.out, HNV.out] at this; omega
      obtain rfl := hpk
      obtain rfl := hpv
      have hlk := World.block_lt_of_cell? w _ hck0
      have hlv := World.block_lt_of_cell? w _ hcv0
      have hck : wr.cell? ⟨bk, ok + i, none⟩ = some (.string (B k)) := (HB.out.cell (p := ⟨bk, ok + i, none⟩) hlk).trans hck0
      have hcv : wr.cell? ⟨bv', ov + i, none⟩ = some (.string (B u)) := (HB.out.cell (p := ⟨bv', ov + i, none⟩) hlv).trans hcv0
      clear hk hu hck0 hcv0
      have HKL := hid (show (front n ++ pre n (i + 1)).length ≤ E by
        have h1 := pre_le n (i + 1)
        have h2 := HBD.out
        rw [List.length_append]
        simp only [front, List.length_cons, List.length_nil]
        omega)
      go_wp2_with fail
      obtain ⟨w2, hw2⟩ : ∃ x, wr.alloc (.cells #[.string (B k), .string (B u)] 9) = x := ⟨_, rfl⟩
      have ha2 : Below wr.heap.size wr w2 := by rw [← hw2]; exact (Below.refl _ _).alloc (Nat.le_refl _) _
      have hbl2 : Blk w2 wr.heap.size (tv [k, u]) TSt := by rw [← hw2]; exact heap_alloc_new _ _
      have hso2 : w2.heap.size = wr.heap.size + 1 := by rw [← hw2]; simp
      rw [hw2]
      clear hw2
      obtain ⟨out, hout⟩ : ∃ out, front n ++ pre n (i + 1) = out := ⟨_, rfl⟩
      obtain ⟨m3, hm3⟩ : ∃ m3, out.length = m3 := ⟨_, rfl⟩
      have hm3b : m3 ≤ 100000 := by have := HKL.out; rw [hout, hm3] at this; omega
      refine (lay_any w2 (w.heap.size + 1) p c (front n ++ pre n i) [k, u] wr.heap.size m m3 2 out (own_new HO.out ha2) hbl2 rfl (by omega) HM.out.symm hm3 (by rw [← hout, HP.out, List.append_assoc]) hm3b (by omega)).mono ?_
      rintro e3 w3 ⟨p3, c3', rfl, ho3, hb3⟩
      have hb3' : Below (w.heap.size + 1) wr w3 := (ha2.mono (by omega)).trans hb3
      have HB3 := hid (HB.out.trans (hb3'.mono (by omega)))
      have hs3 : w.heap.size + 2 ≤ w3.heap.size := by have := hb3'.size; omega
      have d0 := (hb3'.cell (p := ⟨w.heap.size, 0, none⟩) (Nat.lt_succ_self _)).trans c0
      have d1 := (hb3'.cell (p := ⟨w.heap.size, 1, none⟩) (Nat.lt_succ_self _)).trans c1
      have d2 := (hb3'.cell (p := ⟨w.heap.size, 2, none⟩) (Nat.lt_succ_self _)).trans c2
      have d3 := (hb3'.cell (p := ⟨w.heap.size, 3, none⟩) (Nat.lt_succ_self _)).trans c3
      have HO3 := hid ho3
      have HM3 := hid hm3
      rw [← hout] at HO3 HM3
      clear hout hm3 ho3 hb3 hb3' c0 c1 c2 c3 ha2 hbl2 hso2
      go_wp2_with fail
      go_roundw
      case rel => exact ⟨i + 1, m3, p3, c3', rfl, by first | rfl | (congr 1; omega) | (congr 1), hlt, hm3b, hs3, d0, d1, d2, d3, hid HM3.out.symm, HO3, HB3⟩
      case measure => simp [intOf]; omega
    · have hlt2 : ¬ (i : Int) < (nk : Int) := by omega
      have HO4 := hid HO.out
      have HM4 := hid HM.out
      rw [pre_all (by rw [HNK.out]; omega)] at HO4 HM4
      clear HO HM hi
      go_wp2_with fail
      go_loopw [3, 44] (fun vb vi wr2 => ∃ (j m : Nat) (p : Option Addr) (c : Nat), vb = .slice p m c ∧ vi = .int .i64 j ∧ j ≤ nd ∧ m ≤ 100000 ∧ w.heap.size + 2 ≤ wr2.heap.size ∧
        Hid (m = (front n ++ bodyP n ++ (n.kids.take j).flatMap le2).length) ∧ Hid (wr2.ownsRow (w.heap.size + 1) TU 1 (.slice p m c) m (bv (front n ++ bodyP n ++ (n.kids.take j).flatMap le2))) ∧ Hid (Below w.heap.size w wr2)) (fun vb vi _ => nd - (intOf vi).toNat)
      case atStart => exact ⟨0, m, p, c, rfl, rfl, Nat.zero_le _, hm, hsr, hid (by simpa using HM4.out), hid (by simpa using HO4.out), HB⟩
      case round =>
        obtain ⟨j, m5, p5, c5, rfl, rfl, hj, hm5, hs5, HM5, HO5, HB5⟩ := hrel
        by_cases hlt : j < nd
        · have hlt2 : (j : Int) < (nd : Int) := by omega
          obtain ⟨bd, od, hpd, hcd0⟩ := rd_num H.out.kids (i := j) (by rw [HND.out]; exact hlt)
          obtain ⟨k, hk⟩ : ∃ k, n.kids[j]'(by rw [HND.out]; exact hlt) = k := ⟨_, rfl⟩
          rw [hk] at hcd0
          have HKD := hid (show (n.kids.take (j + 1)).flatMap le2 = (n.kids.take j).flatMap le2 ++ le2 k by
            rw [List.take_add_one, List.getElem?_eq_getElem (by rw [HND.out]; exact hlt), hk]; simp)
          obtain rfl := hpd
          have hld := World.block_lt_of_cell? w _ hcd0
          have hcd : wr.cell? ⟨bd, od + j, none⟩ = some (.int .i64 (k : Int)) := (HB5.out.cell (p := ⟨bd, od + j, none⟩) hld).trans hcd0
          have HKL := hid (show m5 + 2 ≤ E by
            have h1 := HM5.out
            have h2 := HBD.out
            rw [List.length_append, List.length_append, flatMap_le2, List.length_take, HND.out] at h1
            simp only [front, List.length_cons, List.length_nil] at h1
            omega)
          have HUK := hid (show [Value.int .u8 ((k : Int) % 256), .int .u8 ((k : Int) / 256 % 256)] = bv (le2 k) by
            simp [bv, le2, UInt8.toNat_ofNat'])
          clear hk hcd0
          go_wp2_with (at_builtin; refine wp_keep ?_)
          refine hid ?_
          refine wpList_append_rd rfl _ _ 30 rfl (w.heap.size + 1) TU _ 1 1 Try.underlying30 infoU8s rfl (by decide) _ _ _ rfl (own_new HO5.out ((Below.refl _ _).alloc (Nat.le_refl _) _)) _ 2 [.int .u8 ((k : Int) % 256), .int .u8 ((k : Int) / 256 % 256)] rfl (Rd.fresh2 _ _ _ _) (by simp [Value.oneCell']) (by simp only [maxLen]; omega) (by omega) (by simp; omega) ?_
          intro p6 c6 w6 ho6 hg6 _
          have HO5a := hid (own_new HO5.out ((Below.refl _ _).alloc (Nat.le_refl _) (.cells #[.int .u8 ((k : Int) % 256), .int .u8 ((k : Int) / 256 % 256)] TU)))
          have HB6 := hid ((HB5.out.alloc (by omega) (.cells #[.int .u8 ((k : Int) % 256), .int .u8 ((k : Int) / 256 % 256)] TU)).trans ((own_below HO5a.out hg6 (by simp; omega)).mono (by omega)))
          have hs6 : w.heap.size + 2 ≤ w6.heap.size := by have := hg6.size; simp at this; omega
          rw [HUK.out, ← bv_append, List.append_assoc, ← HKD.out] at ho6
          have HO6 := hid ho6
          have hm6 : m5 + 2 ≤ 100000 := by have := HKL.out; omega
          have HM6 := hid (show m5 + 2 = (front n ++ bodyP n ++ (n.kids.take (j + 1)).flatMap le2).length by
            rw [HKD.out, HM5.out]
            simp only [List.length_append, le2, List.length_cons, List.length_nil]
            omega)
          clear ho6 hg6 HO5a HO5 HM5 HB5
          go_wp2_with fail
          go_roundw
          case rel => exact ⟨j + 1, m5 + 2, p6, c6, rfl, by first | rfl | (congr 1; omega) | (congr 1), hlt, hm6, hs6, HM6, HO6, HB6⟩
          case measure => simp [intOf]; omega
        · have hlt2 : ¬ (j : Int) < (nd : Int) := by omega
          go_wp2_with fail
          go_ret
          have h1 := HO5.out
          have h2 := HM5.out
          rw [List.take_of_length_le (by rw [HND.out]; omega), ← enc_front] at h1 h2
          rw [HE.out] at h2
          subst h2
          exact ⟨p5, c5, rfl, own_base h1 (by omega), HB5.out⟩

set_option maxRecDepth 100000 in
set_option maxHeartbeats 4000000 in
theorem bytes_inner (w : World) (n : Nd) (pk : Option Addr) (nk ck : Nat) (pv : Option Addr) (nv cv : Nat) (pd : Option Addr) (nd cd : Nat) (h : NdAt w false pk ck pv cv pd cd n) (hnk : n.keys.length = nk) (hnv : n.vals.length = nv) (hnd : n.kids.length = nd) (hv : n.leaf = true → n.vals.length = n.keys.length) (hs : sizeP n ≤ 100000) :
    Calls Try.prog 26 #[ndV false pk nk ck pv nv cv pd nd cd] w fun e w' => ∃ p c, e = .returned (.slice p (enc n).length c) ∧ w'.ownsRow w.heap.size TU 1 (.slice p (enc n).length c) (enc n).length (bv (enc n)) ∧ Below w.heap.size w w' := by
  have H := hid h
  have HVL := hid hv
  have hlf := h.lf
  have HNK := hid hnk
  have HNV := hid hnv
  have HND := hid hnd
  have hE := enc_length n
  obtain ⟨E, hEE⟩ : ∃ E, (enc n).length = E := ⟨_, rfl⟩
  rw [hEE] at hE ⊢
  rw [← hE] at hs
  have HE := hid hEE
  have HBD := hid (show 2 + (bodyP n).length + 2 * nd = E by
    have h1 := enc_front n
    have h2 := congrArg List.length h1
    rw [hEE, List.length_append, List.length_append, flatMap_le2, hnd] at h2
    simp only [front, List.length_cons, List.length_nil] at h2
    omega)
  have hKE : nk ≤ E := by
    have h1 := len_le_sum _ (costs_pos n)
    rw [costs_len2 hv, hnk, ← bodyP_length] at h1
    have := HBD.out
    omega
  have hDE : nd ≤ E := by have := HBD.out; omega
  have HFR := hid (show [Value.int .u8 2, .int .u8 ((nk : Int) % 256)] = bv (front n) by
    unfold front
    rw [hlf, hnk]
    simp [bv, UInt8.toNat_ofNat'])
  clear h hv hnk hnv hnd hE hEE
  unfold ndV
  go_enter Try.func26, Try.ntmps26
  go_wp2_with fail
  obtain ⟨w1, hw1⟩ : ∃ x, ((w.alloc (.cells #[.bool false, .slice pk nk ck, .slice pv nv cv, .slice pd nd cd] 59)).alloc (.cells #[.int .u8 2, .int .u8 ((nk : Int) % 256)] 5)) = x := ⟨_, rfl⟩
  rw [hw1]
  have a0 : w1.cell? ⟨w.heap.size, 0, none⟩ = some (.bool false) := by rw [← hw1]; simp
  have a1 : w1.cell? ⟨w.heap.size, 1, none⟩ = some (.slice pk nk ck) := by rw [← hw1]; simp
  have a2 : w1.cell? ⟨w.heap.size, 2, none⟩ = some (.slice pv nv cv) := by rw [← hw1]; simp
  have a3 : w1.cell? ⟨w.heap.size, 3, none⟩ = some (.slice pd nd cd) := by rw [← hw1]; simp
  have hs1 : w1.heap.size = w.heap.size + 2 := by rw [← hw1]; simp
  have HB1 : Hid (Below w.heap.size w w1) := hid (by rw [← hw1]; exact ((Below.refl _ _).alloc (Nat.le_refl _) _).alloc (by simp) _)
  have HO1 : Hid (w1.ownsRow (w.heap.size + 1) TU 1 (.slice (some ⟨w.heap.size + 1, 0, none⟩) 2 2) 2 (bv (front n))) := hid (by
    rw [← hw1, ← HFR.out]
    have := own_fresh (w.alloc (.cells #[.bool false, .slice pk nk ck, .slice pv nv cv, .slice pd nd cd] 59)) [.int .u8 2, .int .u8 ((nk : Int) % 256)] TU 2 rfl (by simp [maxLen]) (w.heap.size + 1) (by simp)
    simpa using this)
  clear hw1
  go_loopw [3, 20] (fun vb vi wr => ∃ (i m : Nat) (p : Option Addr) (c : Nat), vb = .slice p m c ∧ vi = .int .i64 i ∧ i ≤ nk ∧ m ≤ 100000 ∧ w.heap.size + 2 ≤ wr.heap.size ∧ wr.cell? ⟨w.heap.size, 0, none⟩ = some (.bool false) ∧ wr.cell? ⟨w.heap.size, 1, none⟩ = some (.slice pk nk ck) ∧ wr.cell? ⟨w.heap.size, 2, none⟩ = some (.slice pv nv cv) ∧ wr.cell? ⟨w.heap.size, 3, none⟩ = some (.slice pd nd cd) ∧
    Hid (m = (front n ++ pre n i).length) ∧ Hid (wr.ownsRow (w.heap.size + 1) TU 1 (.slice p m c) m (bv (front n ++ pre n i))) ∧ Hid (Below w.heap.size w wr)) (fun vb vi _ => nk - (intOf vi).toNat)
  case atStart => exact ⟨0, 2, _, _, rfl, rfl, Nat.zero_le _, by omega, by omega, a0, a1, a2, a3, hid (by simp [front, pre_zero]), hid (by rw [pre_zero, List.append_nil]; exact HO1.out), HB1⟩
  case round =>
    obtain ⟨i, m, p, c, rfl, rfl, hi, hm, hsr, c0, c1, c2, c3, HM, HO, HB⟩ := hrel
    by_cases hlt : i < nk
    · have hlt2 : (i : Int) < (nk : Int) := by omega
      obtain ⟨bk, ok, hpk, hck0⟩ := rd_text H.out.keys (i := i) (by rw [HNK.out]; exact hlt)
      obtain ⟨k, hk⟩ : ∃ k, n.keys[i]'(by rw [HNK.out]; exact hlt) = k := ⟨_, rfl⟩
      have HP := hid (pre_inner hlf (i := i) (by rw [HNK.out]; exact hlt))
      rw [hk] at hck0
      rw [hk] at HP
      obtain rfl := hpk
      have hlk := World.block_lt_of_cell? w _ hck0
      have hck : wr.cell? ⟨bk, ok + i, none⟩ = some (.string (B k)) := (HB.out.cell (p := ⟨bk, ok + i, none⟩) hlk).trans hck0
      clear hk hck0
      have HKL := hid (show (front n ++ pre n (i + 1)).length ≤ E by
        have h1 := pre_le n (i + 1)
        have h2 := HBD.out
        rw [List.length_append]
        simp only [front, List.length_cons, List.length_nil]
        omega)
      go_wp2_with fail
      obtain ⟨w2, hw2⟩ : ∃ x, wr.alloc (.cells #[.string (B k)] 9) = x := ⟨_, rfl⟩
      have ha2 : Below wr.heap.size wr w2 := by rw [← hw2]; exact (Below.refl _ _).alloc (Nat.le_refl _) _
      have hbl2 : Blk w2 wr.heap.size (tv [k]) TSt := by rw [← hw2]; exact heap_alloc_new _ _
      have hso2 : w2.heap.size = wr.heap.size + 1 := by rw [← hw2]; simp
      rw [hw2]
      clear hw2
      obtain ⟨out, hout⟩ : ∃ out, front n ++ pre n (i + 1) = out := ⟨_, rfl⟩
      obtain ⟨m3, hm3⟩ : ∃ m3, out.length = m3 := ⟨_, rfl⟩
      have hm3b : m3 ≤ 100000 := by have := HKL.out; rw [hout, hm3] at this; omega
      refine (lay_any w2 (w.heap.size + 1) p c (front n ++ pre n i) [k] wr.heap.size m m3 1 out (own_new HO.out ha2) hbl2 rfl (by omega) HM.out.symm hm3 (by rw [← hout, HP.out, List.append_assoc]) hm3b (by omega)).mono ?_
      rintro e3 w3 ⟨p3, c3', rfl, ho3, hb3⟩
      have hb3' : Below (w.heap.size + 1) wr w3 := (ha2.mono (by omega)).trans hb3
      have HB3 := hid (HB.out.trans (hb3'.mono (by omega)))
      have hs3 : w.heap.size + 2 ≤ w3.heap.size := by have := hb3'.size; omega
      have d0 := (hb3'.cell (p := ⟨w.heap.size, 0, none⟩) (Nat.lt_succ_self _)).trans c0
      have d1 := (hb3'.cell (p := ⟨w.heap.size, 1, none⟩) (Nat.lt_succ_self _)).trans c1
      have d2 := (hb3'.cell (p := ⟨w.heap.size, 2, none⟩) (Nat.lt_succ_self _)).trans c2
      have d3 := (hb3'.cell (p := ⟨w.heap.size, 3, none⟩) (Nat.lt_succ_self _)).trans c3
      have HO3 := hid ho3
      have HM3 := hid hm3
      rw [← hout] at HO3 HM3
      clear hout hm3 ho3 hb3 hb3' c0 c1 c2 c3 ha2 hbl2 hso2
      go_wp2_with fail
      go_roundw
      case rel => exact ⟨i + 1, m3, p3, c3', rfl, by first | rfl | (congr 1; omega) | (congr 1), hlt, hm3b, hs3, d0, d1, d2, d3, hid HM3.out.symm, HO3, HB3⟩
      case measure => simp [intOf]; omega
    · have hlt2 : ¬ (i : Int) < (nk : Int) := by omega
      have HO4 := hid HO.out
      have HM4 := hid HM.out
      rw [pre_all (by rw [HNK.out]; omega)] at HO4 HM4
      clear HO HM hi
      go_wp2_with fail
      go_loopw [3, 44] (fun vb vi wr2 => ∃ (j m : Nat) (p : Option Addr) (c : Nat), vb = .slice p m c ∧ vi = .int .i64 j ∧ j ≤ nd ∧ m ≤ 100000 ∧ w.heap.size + 2 ≤ wr2.heap.size ∧
        Hid (m = (front n ++ bodyP n ++ (n.kids.take j).flatMap le2).length) ∧ Hid (wr2.ownsRow (w.heap.size + 1) TU 1 (.slice p m c) m (bv (front n ++ bodyP n ++ (n.kids.take j).flatMap le2))) ∧ Hid (Below w.heap.size w wr2)) (fun vb vi _ => nd - (intOf vi).toNat)
      case atStart => exact ⟨0, m, p, c, rfl, rfl, Nat.zero_le _, hm, hsr, hid (by simpa using HM4.out), hid (by simpa using HO4.out), HB⟩
      case round =>
        obtain ⟨j, m5, p5, c5, rfl, rfl, hj, hm5, hs5, HM5, HO5, HB5⟩ := hrel
        by_cases hlt : j < nd
        · have hlt2 : (j : Int) < (nd : Int) := by omega
          obtain ⟨bd, od, hpd, hcd0⟩ := rd_num H.out.kids (i := j) (by rw [HND.out]; exact hlt)
          obtain ⟨k, hk⟩ : ∃ k, n.kids[j]'(by rw [HND.out]; exact hlt) = k := ⟨_, rfl⟩
          rw [hk] at hcd0
          have HKD := hid (show (n.kids.take (j + 1)).flatMap le2 = (n.kids.take j).flatMap le2 ++ le2 k by
            rw [List.take_add_one, List.getElem?_eq_getElem (by rw [HND.out]; exact hlt), hk]; simp)
          obtain rfl := hpd
          have hld := World.block_lt_of_cell? w _ hcd0
          have hcd : wr.cell? ⟨bd, od + j, none⟩ = some (.int .i64 (k : Int)) := (HB5.out.cell (p := ⟨bd, od + j, none⟩) hld).trans hcd0
          have HKL := hid (show m5 + 2 ≤ E by
            have h1 := HM5.out
            have h2 := HBD.out
            rw [List.length_append, List.length_append, flatMap_le2, List.length_take, HND.out] at h1
            simp only [front, List.length_cons, List.length_nil] at h1
            omega)
          have HUK := hid (show [Value.int .u8 ((k : Int) % 256), .int .u8 ((k : Int) / 256 % 256)] = bv (le2 k) by
            simp [bv, le2, UInt8.toNat_ofNat'])
          clear hk hcd0
          go_wp2_with (at_builtin; refine wp_keep ?_)
          refine hid ?_
          refine wpList_append_rd rfl _ _ 30 rfl (w.heap.size + 1) TU _ 1 1 Try.underlying30 infoU8s rfl (by decide) _ _ _ rfl (own_new HO5.out ((Below.refl _ _).alloc (Nat.le_refl _) _)) _ 2 [.int .u8 ((k : Int) % 256), .int .u8 ((k : Int) / 256 % 256)] rfl (Rd.fresh2 _ _ _ _) (by simp [Value.oneCell']) (by simp only [maxLen]; omega) (by omega) (by simp; omega) ?_
          intro p6 c6 w6 ho6 hg6 _
          have HO5a := hid (own_new HO5.out ((Below.refl _ _).alloc (Nat.le_refl _) (.cells #[.int .u8 ((k : Int) % 256), .int .u8 ((k : Int) / 256 % 256)] TU)))
          have HB6 := hid ((HB5.out.alloc (by omega) (.cells #[.int .u8 ((k : Int) % 256), .int .u8 ((k : Int) / 256 % 256)] TU)).trans ((own_below HO5a.out hg6 (by simp; omega)).mono (by omega)))
          have hs6 : w.heap.size + 2 ≤ w6.heap.size := by have := hg6.size; simp at this; omega
          rw [HUK.out, ← bv_append, List.append_assoc, ← HKD.out] at ho6
          have HO6 := hid ho6
          have hm6 : m5 + 2 ≤ 100000 := by have := HKL.out; omega
          have HM6 := hid (show m5 + 2 = (front n ++ bodyP n ++ (n.kids.take (j + 1)).flatMap le2).length by
            rw [HKD.out, HM5.out]
            simp only [List.length_append, le2, List.length_cons, List.length_nil]
            omega)
          clear ho6 hg6 HO5a HO5 HM5 HB5
          go_wp2_with fail
          go_roundw
          case rel => exact ⟨j + 1, m5 + 2, p6, c6, rfl, by first | rfl | (congr 1; omega) | (congr 1), hlt, hm6, hs6, HM6, HO6, HB6⟩
          case measure => simp [intOf]; omega
        · have hlt2 : ¬ (j : Int) < (nd : Int) := by omega
          go_wp2_with fail
          go_ret
          have h1 := HO5.out
          have h2 := HM5.out
          rw [List.take_of_length_le (by rw [HND.out]; omega), ← enc_front] at h1 h2
          rw [HE.out] at h2
          subst h2
          exact ⟨p5, c5, rfl, own_base h1 (by omega), HB5.out⟩

theorem bytes_any (w : World) (n : Nd) (lf : Bool) (pk : Option Addr) (nk ck : Nat) (pv : Option Addr) (nv cv : Nat) (pd : Option Addr) (nd cd : Nat) (h : NdAt w lf pk ck pv cv pd cd n) (hnk : n.keys.length = nk) (hnv : n.vals.length = nv) (hnd : n.kids.length = nd) (hv : n.leaf = true → n.vals.length = n.keys.length) (hs : sizeP n ≤ 100000) :
    Calls Try.prog 26 #[ndV lf pk nk ck pv nv cv pd nd cd] w fun e w' => ∃ p c, e = .returned (.slice p (enc n).length c) ∧ w'.ownsRow w.heap.size TU 1 (.slice p (enc n).length c) (enc n).length (bv (enc n)) ∧ Below w.heap.size w w' := by
  cases lf
  · exact bytes_inner w n pk nk ck pv nv cv pd nd cd h hnk hnv hnd hv hs
  · exact bytes_leaf w n pk nk ck pv nv cv pd nd cd h hnk hnv hnd hv hs
end Go.Proofs.Ytdilkgcoecipjaa

namespace Go.Proofs.Ytdilkgcoecipjaa
open Go.RowKit
set_option linter.unusedVariables false

abbrev TBits : TypeId := 119
/-- bits at a block: what is left -/
def Bit (w : World) (r : Nat) (ob : Option Nat) (b : Tx) : Prop :=
  ∃ v, w.heap[r]? = some (.cells #[v, .bool false] TBits (0, 0)) ∧ Bs w v b ∧ v.ownBlock = ob ∧ ob ≠ some r
theorem Bit.chg {w w' : World} {fp : Nat → Prop} {r : Nat} {ob : Option Nat} {b : Tx} (h : Bit w r ob b) (hc : Chg fp w w') (hr : ¬ fp r)
    (ho : ∀ g, ob = some g → g < w.heap.size → ¬ fp g) : Bit w' r ob b := by
  obtain ⟨v, h1, h2, h3, h4⟩ := h
  exact ⟨v, hc.heap h1 hr, h2.chg hc (fun _ g hg hlt => ho g (h3 ▸ hg) hlt), h3, h4⟩
theorem Bit.new {w w' : World} {r : Nat} {ob : Option Nat} {b : Tx} (h : Bit w r ob b) (hb : Below w.heap.size w w') : Bit w' r ob b :=
  h.chg (Chg.new hb NoFp) (fun h => h) (fun _ _ _ h => h)

set_option maxHeartbeats 1000000 in
theorem btake_any (r : Nat) (ob : Option Nat) (l : Tx) (n : Nat) (w : World) (hr : Bit w r ob l) (hl : l.length ≤ 1000000) (hle : n ≤ l.length) :
    Calls Try.prog 63 #[.pointer (some ⟨r, 0, none⟩), .int .i64 n] w fun en w' => ∃ p c, en = .returned (.slice p n c) ∧ Chg (fun k => k = r) w w' ∧
      Bit w' r ob (l.drop n) ∧ Rd w' 1 (.slice p n c) n (bv (l.take n)) ∧ Value.ownBlock (.slice p n c) = ob := by
  obtain ⟨v, hblk, hv, hob, hne⟩ := hr
  obtain ⟨c0, c1, f0, f1⟩ := two_cells hblk
  have HV := hid hv
  obtain ⟨hlen, p, cap, rfl, h3, h4, h5, h6⟩ := hv
  have hne' : Value.ownBlock (.slice p l.length cap) ≠ some r := by rw [hob]; exact hne
  have HN := hid hne'; clear hne'
  have HO := hid hob; clear hob
  have HNE := hid hne; clear hne
  have HB := hid hblk; clear hblk
  clear h6 h5 hlen
  have hn2 : ¬ (l.length : Int) < (n : Int) := by omega
  go_enter Try.func63, Try.ntmps63
  go_wp2_with (first | (refine wpList_slice_rd rfl 30 _ _ _ rfl 5 1 Try.underlying30 infoU8' _ _ _ rfl HV.out 0 n rfl ⟨_, _, rfl, by omega, by simp⟩ (by omega) hle ?_; intro qa qc hq hqb) | (refine wpList_slice_rd rfl 30 _ _ _ rfl 5 1 Try.underlying30 infoU8' _ _ _ rfl HV.out n l.length ⟨_, _, rfl, by omega, by simp⟩ rfl hle (Nat.le_refl _) ?_; intro qa2 qc2 hq2 hqb2))
  go_ret
  have hq' : Rd w 1 (.slice qa n qc) n (bv (l.take n)) := by
    simpa [bv] using hq
  have hq2' : Bs w (.slice qa2 (l.length - n) qc2) (l.drop n) := by
    unfold Bs
    have h : (bv l).drop n = bv (l.drop n) := by simp [bv]
    simp only [Nat.mul_one, h, List.length_drop] at hq2 ⊢
    rwa [List.take_of_length_le (by simp)] at hq2
  have hn0 : Value.ownBlock (.slice qa n qc) = Value.ownBlock (.slice p l.length cap) := by
    rw [show Value.ownBlock (.slice qa n qc) = Value.ownBlock (.slice qa (n - 0) qc) from rfl, hqb]; rfl
  have hn1 : Value.ownBlock (.slice qa n qc) ≠ some r := by rw [hn0]; exact HN.out
  have hn2 : Value.ownBlock (.slice qa2 (l.length - n) qc2) ≠ some r := by rw [hqb2]; exact HN.out
  have hc : Chg (fun k => k = r) w (w.setCell ⟨r, 0, none⟩ (.slice qa2 (l.length - n) qc2)) := Chg.setCell (fp := fun k => k = r) _ rfl _
  exact ⟨_, _, rfl, hc, ⟨_, two_set0 HB.out, Rd.chg hq2' hc (ownBlock_chg hn2), hqb2.trans HO.out, HNE.out⟩, Rd.chg hq' hc (ownBlock_chg hn1), hn0.trans HO.out⟩

theorem take_enc {t rest : Tx} (h : t.length < 256) : (encT t ++ rest).take 1 = [UInt8.ofNat t.length] ∧ (encT t ++ rest).drop 1 = t ++ rest ∧ (UInt8.ofNat t.length).toNat = t.length := by
  refine ⟨by simp [encT], by simp [encT], ?_⟩
  rw [UInt8.toNat_ofNat']; omega

set_option maxHeartbeats 1000000 in
theorem btext_any (r : Nat) (ob : Option Nat) (t rest : Tx) (w : World) (hr : Bit w r ob (encT t ++ rest)) (ht : t.length < 256) (hl : (encT t ++ rest).length ≤ 100000) :
    Calls Try.prog 64 #[.pointer (some ⟨r, 0, none⟩)] w fun en w' => en = .returned (.string (B t)) ∧ Chg (fun k => k = r) w w' ∧ Bit w' r ob rest := by
  have HR := hid hr
  have HT := hid (take_enc (rest := rest) ht)
  have hl1 : (encT t ++ rest).length ≤ 1000000 := by omega
  have hl2 : (t ++ rest).length ≤ 1000000 := by simp [encT] at hl; simp; omega
  have HL := hid hl1
  have HL2 := hid hl2
  clear hr hl hl1 hl2
  go_enter Try.func64, Try.ntmps64
  go_wp2_with fail
  refine (btake_any r ob _ 1 w HR.out HL.out (by simp [encT])).mono ?_
  rintro e1 w1 ⟨p1, c1, rfl, hc1, hb1, hr1, _⟩
  rw [HT.out.1] at hr1
  rw [HT.out.2.1] at hb1
  obtain ⟨bb, ob1, rfl, hcc⟩ := hr1.addr (by omega)
  have hc0 : w1.cell? ⟨bb, ob1, none⟩ = some (.int .u8 ((UInt8.ofNat t.length).toNat : Int)) := hcc 0 _ rfl
  rw [HT.out.2.2] at hc0
  have HB1 := hid hb1
  have HC1 := hid hc1
  clear hb1 hc1 hr1 hcc
  go_wp2_with fail
  refine (btake_any r ob _ t.length w1 HB1.out HL2.out (by simp)).mono ?_
  rintro e2 w2 ⟨p2, c2, rfl, hc2, hb2, hr2, _⟩
  rw [List.take_left' rfl] at hr2
  rw [List.drop_left' rfl] at hb2
  have HB2 := hid hb2
  have HC2 := hid (HC1.out.trans hc2 (fun _ _ h => h))
  have HR2 := hid hr2
  clear hb2 hc2 hr2
  go_wp2_with (refine wpList_bytes_str rfl _ _ _ rfl 5 Try.underlying30 Try.underlying5 Try.underlying9 _ _ rfl HR2.out ?_)
  go_ret
  exact ⟨rfl, HC2.out, HB2.out⟩
end Go.Proofs.Ytdilkgcoecipjaa
