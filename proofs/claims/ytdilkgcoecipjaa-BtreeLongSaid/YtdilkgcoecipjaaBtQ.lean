/- Nodes and trees as pure data: bytes, sizes, rows of kids, tokens, pages. -/
import Derived.Test.YtdilkgcoecipjaaBtP
namespace Go.Proofs.Ytdilkgcoecipjaa
set_option linter.unusedVariables false

structure Nd where
  leaf : Bool
  keys : List Tx
  vals : List Tx
  kids : List Nat

def encT (t : Tx) : Tx := UInt8.ofNat t.length :: t
def le2 (k : Nat) : Tx := [UInt8.ofNat k, UInt8.ofNat (k / 256)]
/-- the texts of a node, one after another -/
def bodyP (n : Nd) : Tx := if n.leaf then (n.keys.zip n.vals).flatMap (fun e => encT e.1 ++ encT e.2) else n.keys.flatMap encT
def enc (n : Nd) : Tx := (if n.leaf then 1 else 2) :: UInt8.ofNat n.keys.length :: (bodyP n ++ n.kids.flatMap le2)
/-- what each key costs -/
def costs (n : Nd) : List Nat := if n.leaf then (n.keys.zip n.vals).map (fun e => 2 + e.1.length + e.2.length) else n.keys.map (fun k => 1 + k.length)
def sizeP (n : Nd) : Nat := 2 + 2 * n.kids.length + (costs n).sum

def OkN (n : Nd) : Prop :=
  if n.leaf = true then n.vals.length = n.keys.length ∧ n.kids = [] ∧ ∀ e ∈ n.keys.zip n.vals, e.1.length ≤ 140 ∧ e.1.length + e.2.length ≤ 150
  else n.vals = [] ∧ n.kids.length = n.keys.length + 1 ∧ (∀ k ∈ n.keys, k.length ≤ 140) ∧ ∀ k ∈ n.kids, k < 65536

theorem encT_length (t : Tx) : (encT t).length = 1 + t.length := by simp [encT]; omega
theorem flatMap_le2 (l : List Nat) : (l.flatMap le2).length = 2 * l.length := by
  induction l with
  | nil => rfl
  | cons a l ih => rw [List.flatMap_cons, List.length_append, ih, List.length_cons]; simp [le2]; omega
theorem bodyP_length (n : Nd) : (bodyP n).length = (costs n).sum := by
  unfold bodyP costs
  split
  · generalize n.keys.zip n.vals = z
    induction z with
    | nil => rfl
    | cons a l ih => rw [List.flatMap_cons, List.length_append, ih, List.map_cons, List.sum_cons, List.length_append, encT_length, encT_length]; omega
  · generalize n.keys = z
    induction z with
    | nil => rfl
    | cons a l ih => rw [List.flatMap_cons, List.length_append, ih, List.map_cons, List.sum_cons, encT_length]
theorem enc_length (n : Nd) : (enc n).length = sizeP n := by
  unfold enc sizeP
  rw [List.length_cons, List.length_cons, List.length_append, bodyP_length, flatMap_le2]
  omega
theorem len_le_sum : ∀ (l : List Nat), (∀ x ∈ l, 1 ≤ x) → l.length ≤ l.sum
  | [], _ => Nat.le_refl _
  | a :: l, h => by
    have := len_le_sum l (fun x hx => h x (List.mem_cons_of_mem _ hx))
    have := h a (List.mem_cons_self ..)
    rw [List.length_cons, List.sum_cons]; omega
theorem costs_pos (n : Nd) : ∀ x ∈ costs n, 1 ≤ x := by
  intro x hx
  unfold costs at hx
  split at hx <;> obtain ⟨e, _, rfl⟩ := List.mem_map.1 hx <;> omega
theorem costs_length {n : Nd} (h : OkN n) : (costs n).length = n.keys.length := by
  unfold OkN at h
  unfold costs
  split
  · rename_i hl
    rw [if_pos hl] at h
    rw [List.length_map, List.length_zip, h.1, Nat.min_self]
  · rw [List.length_map]
theorem keys_size {n : Nd} (h : OkN n) : n.keys.length + 2 ≤ sizeP n := by
  have h1 := len_le_sum _ (costs_pos n)
  rw [costs_length h] at h1
  unfold sizeP
  omega

/-! rows: a first kid, and others with the keys ahead of them -/
section
variable {α β : Type}
abbrev Row (α : Type) := α × List (Tx × α)
def keysR (r : Row α) : List Tx := r.2.map (·.1)
def kidsR (r : Row α) : List α := r.1 :: r.2.map (·.2)
def fl (tk : α → List Tok) (r : Row α) : List Tok := tk r.1 ++ r.2.flatMap (fun x => sep x.1 :: tk x.2)
theorem kidsR_length (r : Row α) : (kidsR r).length = (keysR r).length + 1 := by simp [kidsR, keysR]
/-- a row in the place of the i-th kid -/
def rput : α → List (Tx × α) → Nat → Row α → Row α
  | _, l, 0, r => (r.1, r.2 ++ l)
  | t, [], _ + 1, _ => (t, [])
  | t, x :: l, i + 1, r => (t, (x.1, (rput x.2 l i r).1) :: (rput x.2 l i r).2)
/-- a row in the place of the i-th kid and the next one -/
def rjoin : α → List (Tx × α) → Nat → Row α → Row α
  | t, [], _, _ => (t, [])
  | _, _ :: l, 0, r => (r.1, r.2 ++ l)
  | t, x :: l, i + 1, r => (t, (x.1, (rjoin x.2 l i r).1) :: (rjoin x.2 l i r).2)

theorem rput_keys : ∀ (t : α) (l : List (Tx × α)) (i : Nat) (r : Row α), i ≤ l.length → keysR (rput t l i r) = (keysR (t, l)).take i ++ keysR r ++ (keysR (t, l)).drop i
  | _, l, 0, r, _ => by simp [rput, keysR]
  | t, [], i + 1, r, h => by simp at h
  | t, x :: l, i + 1, r, h => by
    have ih := rput_keys x.2 l i r (by simpa using h)
    simp only [rput, keysR, List.map_cons, List.take_succ_cons, List.drop_succ_cons, List.cons_append] at ih ⊢
    rw [ih]
theorem rput_kids : ∀ (t : α) (l : List (Tx × α)) (i : Nat) (r : Row α), i ≤ l.length → kidsR (rput t l i r) = (kidsR (t, l)).take i ++ kidsR r ++ (kidsR (t, l)).drop (i + 1)
  | _, l, 0, r, _ => by simp [rput, kidsR]
  | t, [], i + 1, r, h => by simp at h
  | t, x :: l, i + 1, r, h => by
    have ih := rput_kids x.2 l i r (by simpa using h)
    simp only [rput, kidsR, List.map_cons, List.take_succ_cons, List.drop_succ_cons, List.cons_append] at ih ⊢
    rw [ih]
theorem rjoin_keys : ∀ (t : α) (l : List (Tx × α)) (i : Nat) (r : Row α), i < l.length → keysR (rjoin t l i r) = (keysR (t, l)).take i ++ keysR r ++ (keysR (t, l)).drop (i + 1)
  | t, [], i, r, h => by simp at h
  | _, x :: l, 0, r, _ => by simp [rjoin, keysR]
  | t, x :: l, i + 1, r, h => by
    have ih := rjoin_keys x.2 l i r (by simpa using h)
    simp only [rjoin, keysR, List.map_cons, List.take_succ_cons, List.drop_succ_cons, List.cons_append] at ih ⊢
    rw [ih]
theorem rjoin_kids : ∀ (t : α) (l : List (Tx × α)) (i : Nat) (r : Row α), i < l.length → kidsR (rjoin t l i r) = (kidsR (t, l)).take i ++ kidsR r ++ (kidsR (t, l)).drop (i + 2)
  | t, [], i, r, h => by simp at h
  | _, x :: l, 0, r, _ => by simp [rjoin, kidsR]
  | t, x :: l, i + 1, r, h => by
    have ih := rjoin_kids x.2 l i r (by simpa using h)
    simp only [rjoin, kidsR, List.map_cons, List.take_succ_cons, List.drop_succ_cons, List.cons_append] at ih ⊢
    rw [ih]
theorem fl_cons (tk : α → List Tok) (t : α) (x : Tx × α) (l : List (Tx × α)) : fl tk (t, x :: l) = tk t ++ sep x.1 :: fl tk (x.2, l) := by
  simp [fl]
/-- what stands ahead of a kid, and behind it -/
theorem row_at (tk : α → List Tok) : ∀ (t : α) (l : List (Tx × α)) (i : Nat) (x : α), (kidsR (t, l))[i]? = some x →
    ∃ P Q, fl tk (t, l) = P ++ tk x ++ Q ∧ (∀ r, fl tk (rput t l i r) = P ++ fl tk r ++ Q) ∧ ((i = 0 ∧ P = []) ∨ ∃ P' k, P = P' ++ [sep k] ∧ 0 < i ∧ (keysR (t, l))[i - 1]? = some k) ∧
      ((i = l.length ∧ Q = []) ∨ ∃ Q' k, Q = sep k :: Q' ∧ (keysR (t, l))[i]? = some k)
  | t, l, 0, x, h => by
    have h : t = x := by simpa [kidsR] using h
    subst h
    refine ⟨[], l.flatMap (fun x => sep x.1 :: tk x.2), by simp [fl], fun r => by simp [rput, fl], .inl ⟨rfl, rfl⟩, ?_⟩
    cases l with
    | nil => exact .inl ⟨rfl, rfl⟩
    | cons y l => exact .inr ⟨tk y.2 ++ l.flatMap (fun x => sep x.1 :: tk x.2), y.1, by simp, by simp [keysR]⟩
  | t, [], i + 1, x, h => by simp [kidsR] at h
  | t, y :: l, i + 1, x, h => by
    obtain ⟨P, Q, h1, h2, h3, h4⟩ := row_at tk y.2 l i x (by simpa [kidsR] using h)
    refine ⟨tk t ++ sep y.1 :: P, Q, ?_, fun r => ?_, .inr ?_, ?_⟩
    · rw [fl_cons, h1]; simp
    · rw [rput, fl_cons, h2]; simp
    · rcases h3 with ⟨rfl, rfl⟩ | ⟨P', k, rfl, h5, h6⟩
      · exact ⟨tk t, y.1, rfl, by omega, by simp [keysR]⟩
      · refine ⟨tk t ++ sep y.1 :: P', k, by simp, by omega, ?_⟩
        obtain ⟨j, rfl⟩ : ∃ j, i = j + 1 := ⟨i - 1, by omega⟩
        simpa [keysR] using h6
    · rcases h4 with ⟨rfl, rfl⟩ | ⟨Q', k, rfl, h5⟩
      · exact .inl ⟨rfl, rfl⟩
      · exact .inr ⟨Q', k, rfl, by simpa [keysR] using h5⟩
/-- two kids beside one another -/
theorem row_at2 (tk : α → List Tok) : ∀ (t : α) (l : List (Tx × α)) (i : Nat) (x y : α) (k : Tx), (kidsR (t, l))[i]? = some x → (kidsR (t, l))[i + 1]? = some y → (keysR (t, l))[i]? = some k →
    ∃ P Q, fl tk (t, l) = P ++ (tk x ++ sep k :: tk y) ++ Q ∧ ∀ r, fl tk (rjoin t l i r) = P ++ fl tk r ++ Q
  | t, [], i, x, y, k, h1, h2, h3 => by simp [kidsR] at h2
  | t, z :: l, 0, x, y, k, h1, h2, h3 => by
    have h1 : t = x := by simpa [kidsR] using h1
    have h2 : z.2 = y := by simpa [kidsR] using h2
    have h3 : z.1 = k := by simpa [keysR] using h3
    subst h1; subst h2; subst h3
    exact ⟨[], l.flatMap (fun x => sep x.1 :: tk x.2), by simp [fl], fun r => by simp [rjoin, fl]⟩
  | t, z :: l, i + 1, x, y, k, h1, h2, h3 => by
    obtain ⟨P, Q, h4, h5⟩ := row_at2 tk z.2 l i x y k (by simpa [kidsR] using h1) (by simpa [kidsR] using h2) (by simpa [keysR] using h3)
    exact ⟨tk t ++ sep z.1 :: P, Q, by rw [fl_cons, h4]; simp, fun r => by rw [rjoin, fl_cons, h5]; simp⟩
/-- a row cut in two -/
theorem row_cut (tk : α → List Tok) (t : α) (l1 : List (Tx × α)) (x : Tx × α) (l2 : List (Tx × α)) : fl tk (t, l1 ++ x :: l2) = fl tk (t, l1) ++ sep x.1 :: fl tk (x.2, l2) := by
  simp [fl]
end

/-! trees, all leaves at one depth -/
def Tr : Nat → Type
  | 0 => Nat × List En
  | d + 1 => Nat × Row (Tr d)
def atT : (d : Nat) → Tr d → Nat
  | 0, t => t.1
  | _ + 1, t => t.1
def ndT : (d : Nat) → Tr d → Nd
  | 0, t => ⟨true, t.2.map (·.1), t.2.map (·.2), []⟩
  | d + 1, t => ⟨false, keysR t.2, [], (kidsR t.2).map (atT d)⟩
def toks : (d : Nat) → Tr d → List Tok
  | 0, t => t.2.map ent
  | d + 1, t => fl (toks d) t.2
def pgs : (d : Nat) → Tr d → List Nat
  | 0, t => [t.1]
  | d + 1, t => t.1 :: (kidsR t.2).flatMap (pgs d)
/-- each page has its node -/
def On (N : Nat → Option Nd) : (d : Nat) → Tr d → Prop
  | 0, t => N t.1 = some (ndT 0 t)
  | d + 1, t => N t.1 = some (ndT (d + 1) t) ∧ ∀ c ∈ kidsR t.2, On N d c
/-- no node is without a key -/
def Ful : (d : Nat) → Tr d → Prop
  | 0, t => t.2 ≠ []
  | d + 1, t => t.2.2 ≠ [] ∧ ∀ c ∈ kidsR t.2, Ful d c
/-- no kid's node is -/
def KFul : (d : Nat) → Tr d → Prop
  | 0, _ => True
  | d + 1, t => ∀ c ∈ kidsR t.2, Ful d c
def Fit (d : Nat) (t : Tr d) : Prop := d = 0 ∨ Ful d t
theorem Ful.kful : {d : Nat} → {t : Tr d} → Ful d t → KFul d t
  | 0, _, _ => trivial
  | _ + 1, _, h => h.2
theorem Fit.kful : {d : Nat} → {t : Tr d} → Fit d t → KFul d t
  | 0, _, _ => trivial
  | _ + 1, _, .inr h => h.2
theorem ful_of {d : Nat} {t : Tr d} (h : KFul d t) (hk : (ndT d t).keys ≠ []) : Ful d t := by
  cases d with
  | zero => intro h0; apply hk; show t.2.map (·.1) = []; rw [h0]; rfl
  | succ d => exact ⟨fun h0 => hk (show t.2.2.map (·.1) = [] by rw [h0]; rfl), h⟩
theorem On.node : {N : Nat → Option Nd} → {d : Nat} → {t : Tr d} → On N d t → N (atT d t) = some (ndT d t)
  | _, 0, _, h => h
  | _, _ + 1, _, h => h.1
theorem at_mem : (d : Nat) → (t : Tr d) → atT d t ∈ pgs d t
  | 0, t => List.mem_singleton_self _
  | _ + 1, t => List.mem_cons_self ..
theorem On.congr {N N' : Nat → Option Nd} : {d : Nat} → {t : Tr d} → On N d t → (∀ k ∈ pgs d t, N' k = N k) → On N' d t
  | 0, t, h, hk => (hk _ (at_mem 0 t)).trans h
  | d + 1, t, h, hk => ⟨(hk _ (at_mem (d + 1) t)).trans h.1, fun c hc => (h.2 c hc).congr (fun k hkc => hk k (List.mem_cons_of_mem _ (List.mem_flatMap.2 ⟨c, hc, hkc⟩)))⟩
theorem On.used {N : Nat → Option Nd} : {d : Nat} → {t : Tr d} → On N d t → ∀ k ∈ pgs d t, (N k).isSome = true
  | 0, t, h, k, hk => by rw [List.mem_singleton.1 hk, show N t.1 = _ from h]; rfl
  | d + 1, t, h, k, hk => by
    rcases List.mem_cons.1 hk with rfl | hk
    · rw [h.1]; rfl
    · obtain ⟨c, hc, hk⟩ := List.mem_flatMap.1 hk
      exact (h.2 c hc).used k hk

/-- a full tree has an entry; its pages are fewer than twice its entries -/
theorem ful_count : (d : Nat) → (t : Tr d) → Ful d t → (pgs d t).length + 1 ≤ 2 * (ents (toks d t)).length ∧ 2 ^ d ≤ (ents (toks d t)).length
  | 0, t, h => by
    have hl : 0 < t.2.length := List.length_pos_iff.2 h
    show ([t.1] : List Nat).length + 1 ≤ 2 * (ents (t.2.map ent)).length ∧ 1 ≤ (ents (t.2.map ent)).length
    rw [ents_leaf, List.length_singleton]; omega
  | d + 1, t, h => by
    obtain ⟨h1, h2⟩ := h
    obtain ⟨pg, t0, l⟩ := t
    have key : ∀ (l : List (Tx × Tr d)) (t0 : Tr d), (∀ c ∈ kidsR (t0, l), Ful d c) → ((kidsR (t0, l)).flatMap (pgs d)).length + 1 + l.length ≤ 2 * (ents (fl (toks d) (t0, l))).length ∧ (l.length + 1) * 2 ^ d ≤ (ents (fl (toks d) (t0, l))).length := by
      intro l
      induction l with
      | nil =>
        intro t0 h
        have := ful_count d t0 (h t0 (List.mem_cons_self ..))
        simp [kidsR, fl]; omega
      | cons x l ih =>
        intro t0 h
        have i1 := ih x.2 (fun c hc => h c (List.mem_cons_of_mem _ hc))
        have i2 := ful_count d t0 (h t0 (List.mem_cons_self ..))
        rw [fl_cons, ents_app, ents_sep, List.length_append]
        have e : kidsR (t0, x :: l) = t0 :: kidsR (x.2, l) := rfl
        rw [e, List.flatMap_cons, List.length_append, List.length_cons, Nat.add_mul (l.length + 1) 1]
        omega
    have hk := key l t0 h2
    have hl : 1 ≤ l.length := List.length_pos_iff.2 h1
    show (pg :: (kidsR (t0, l)).flatMap (pgs d)).length + 1 ≤ 2 * (ents (fl (toks d) (t0, l))).length ∧ _ ≤ (ents (fl (toks d) (t0, l))).length
    rw [List.length_cons]
    refine ⟨by omega, Nat.le_trans ?_ hk.2⟩
    rw [Nat.pow_succ, Nat.mul_comm]
    exact Nat.mul_le_mul_right _ (by omega)
theorem fit_count {d : Nat} {t : Tr d} (h : Fit d t) : (pgs d t).length ≤ 1 + 2 * (ents (toks d t)).length ∧ (d = 0 ∨ 2 ^ d ≤ (ents (toks d t)).length) := by
  rcases h with rfl | h
  · refine ⟨?_, .inl rfl⟩
    show ([t.1] : List Nat).length ≤ _
    rw [List.length_singleton]; omega
  · have := ful_count d t h
    exact ⟨by omega, .inr this.2⟩

/-- which pages a change takes, and gives: elsewhere nothing is turned -/
structure Upd (N N' : Nat → Option Nd) (ps ps' : List Nat) : Prop where
  same : ∀ k, k ∉ ps → k ∉ ps' → N' k = N k
  new : ∀ k ∈ ps', k ∈ ps ∨ N k = none
  gone : ∀ k ∈ ps, k ∉ ps' → N' k = none
  nodup : ps'.Nodup

end Go.Proofs.Ytdilkgcoecipjaa
