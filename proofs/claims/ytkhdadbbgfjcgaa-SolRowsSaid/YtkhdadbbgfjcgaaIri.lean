/- Texts as lists of bytes; what chapter 10 says of references: a plain function. -/
import Derived.Test.YtkhdadbbgfjcgaaHeap
import Derived.Lib.Strings
import Derived.Lib.LastIndexByte
import Derived.Lib.Bytealg
namespace Go.Proofs.Ytkhdadbbgfjcgaa
open Go.RowKit
set_option linter.unusedVariables false

/-- a text of bytes -/
def B (l : List UInt8) : ByteArray := ⟨l.toArray⟩

@[go_sem] theorem B_size (l : List UInt8) : (B l).size = l.length := by simp [B, ByteArray.size]
theorem B_data (l : List UInt8) : (B l).data.toList = l := rfl
theorem toList_eq (a : ByteArray) : a.toList = a.data.toList := Go.Lib.toList_data a
@[go_sem] theorem B_toList (l : List UInt8) : (B l).toList = l := by rw [toList_eq]; rfl
@[go_sem] theorem mk_toList (l : List UInt8) : (ByteArray.mk (List.toArray l)).toList = l := B_toList l
theorem B_of (a : ByteArray) : a = B a.data.toList := rfl
theorem B_ext {a b : ByteArray} (h : a.data.toList = b.data.toList) : a = b := by
  rw [B_of a, B_of b, h]
theorem B_extract (l : List UInt8) (i j : Nat) : (B l).extract i j = B ((l.drop i).take (j - i)) := by
  apply B_ext
  rw [Go.Lib.extract_data, B_data, B_data]
@[go_sem] theorem B_extract_to (l : List UInt8) (j : Nat) : (B l).extract 0 j = B (l.take j) := by rw [B_extract]; rfl
@[go_sem] theorem B_extract_from (l : List UInt8) (i : Nat) : (B l).extract i l.length = B (l.drop i) := by rw [B_extract, List.take_of_length_le (by simp)]
@[go_sem] theorem B_append (l m : List UInt8) : B l ++ B m = B (l ++ m) := by
  apply B_ext
  simp [B]
@[go_sem] theorem mk_append (l m : List UInt8) : ByteArray.mk (List.toArray l) ++ B m = B (l ++ m) := B_append l m
@[go_sem] theorem append_mk (l m : List UInt8) : B l ++ ByteArray.mk (List.toArray m) = B (l ++ m) := B_append l m

@[go_sem] theorem B_get (l : List UInt8) (i : Nat) (h : i < (B l).size) : (B l)[i]'h = l[i]'(by rw [B_size] at h; exact h) := rfl

def hp (p l : List UInt8) : Bool := l.take p.length == p
theorem hp_lib (l p : List UInt8) : Go.Lib.hasPrefix l p = hp p l := by
  rw [← Go.Lib.hasPrefix_of_take]
  unfold hp
  by_cases h : p.length ≤ l.length
  · simp [h]
  · have h2 : (l.take p.length == p) = false := by
      apply Bool.eq_false_iff.2
      intro h3
      have h4 := congrArg List.length (eq_of_beq h3)
      rw [List.length_take] at h4
      omega
    rw [h2]; simp
theorem hp_length {p l : List UInt8} (h : hp p l = true) : p.length ≤ l.length := by
  have h4 := congrArg List.length (eq_of_beq h)
  rw [List.length_take] at h4
  omega

/-- how many bytes stand ahead of the first one of some -/
def up (st l : List UInt8) : Nat := (l.takeWhile fun c => !st.contains c).length
theorem up_le (st l : List UInt8) : up st l ≤ l.length := by unfold up; exact (List.takeWhile_sublist _).length_le
theorem up_step {st l : List UInt8} {i : Nat} : ∀ {c : UInt8}, (∀ j, j < i → ∃ d, l[j]? = some d ∧ st.contains d = false) → l[i]? = some c → st.contains c = true → up st l = i := by
  unfold up
  induction i generalizing l with
  | zero =>
    intro c _ h hc
    cases l with
    | nil => simp at h
    | cons a l => simp at h; subst h; rw [List.takeWhile_cons, hc]; rfl
  | succ i ih =>
    intro c hj h hc
    cases l with
    | nil => simp at h
    | cons a l =>
      obtain ⟨d, h1, h2⟩ := hj 0 (by omega)
      simp at h1; subst h1
      rw [List.takeWhile_cons, h2]
      simp only [Bool.not_false, if_true, List.length_cons]
      rw [ih (fun j hjl => by
        obtain ⟨d, h3, h4⟩ := hj (j + 1) (by omega)
        exact ⟨d, by simpa using h3, h4⟩) (by simpa using h) hc]
theorem up_all {st l : List UInt8} (h : ∀ j, j < l.length → ∃ d, l[j]? = some d ∧ st.contains d = false) : up st l = l.length := by
  unfold up
  induction l with
  | nil => rfl
  | cons a l ih =>
    obtain ⟨d, h1, h2⟩ := h 0 (by simp)
    simp at h1; subst h1
    rw [List.takeWhile_cons, h2]
    simp only [Bool.not_false, if_true, List.length_cons]
    rw [ih (fun j hjl => by
        obtain ⟨d, h3, h4⟩ := h (j + 1) (by simp; omega)
        exact ⟨d, by simpa using h3, h4⟩)]

theorem indexByte_neg (st : List UInt8) (c : UInt8) : (Go.Lib.indexByte st c < 0) ↔ st.contains c = false := by
  induction st with
  | nil => simp [Go.Lib.indexByte]
  | cons a st ih =>
    unfold Go.Lib.indexByte
    by_cases h : a = c
    · subst h; simp
    · have h2 : (a == c) = false := by simpa using h
      rw [h2]
      have h3 : (a :: st).contains c = st.contains c := by simp [Ne.symm h]
      rw [h3, ← ih]
      simp only [Bool.false_eq_true, if_false]
      by_cases h4 : Go.Lib.indexByte st c = -1
      · rw [h4]; decide
      · have h5 : (Go.Lib.indexByte st c == -1) = false := by simpa using h4
        rw [h5]
        have h6 : -1 ≤ Go.Lib.indexByte st c := by
          clear ih h2 h3 h4 h5 h
          induction st with
          | nil => simp [Go.Lib.indexByte]
          | cons b st ih2 => unfold Go.Lib.indexByte; split; omega; split; omega; omega
        simp only [Bool.false_eq_true, if_false]
        omega

/-- the place of the last / among the first k, or -1 -/
def lastN (l : List UInt8) : Nat → Int
  | 0 => -1
  | k + 1 => if l[k]? = some 47 then (k : Int) else lastN l k
def last (l : List UInt8) : Int := lastN l l.length
theorem lastN_bd (l : List UInt8) (k : Nat) : -1 ≤ lastN l k ∧ lastN l k < k := by
  induction k with
  | zero => simp [lastN]
  | succ k ih => unfold lastN; split <;> omega
theorem last_bd (l : List UInt8) : -1 ≤ last l ∧ last l < l.length := lastN_bd l _
theorem last_lib (l : List UInt8) : Go.Lib.lastIndexByte (B l) 47 = last l := by
  unfold Go.Lib.lastIndexByte last
  rw [B_size]
  have : ∀ k, k ≤ l.length → Go.Lib.lastIdx (B l) 47 k = lastN l k := by
    intro k
    induction k with
    | zero => intro _; rfl
    | succ k ih =>
      intro hk
      unfold Go.Lib.lastIdx lastN
      have h1 : (B l).data[k]! = l[k]'(by omega) := by simp [B, getElem!_pos, show k < l.length by omega]
      have h2 : l[k]? = some (l[k]'(by omega)) := List.getElem?_eq_getElem (by omega)
      rw [h1, h2, ih (by omega)]
      have h3 : (((l[k]'(by omega)).toNat : Int) = 47) ↔ (some (l[k]'(by omega)) = some (47 : UInt8)) := by
        constructor
        · intro h
          have h4 : (l[k]'(by omega)).toNat = 47 := by omega
          congr 1
          exact UInt8.toNat_inj.1 (by rw [h4]; rfl)
        · intro h
          injection h with h
          rw [h]; rfl
      by_cases h5 : some (l[k]'(by omega)) = some (47 : UInt8)
      · rw [if_pos h5]; simp [h3.2 h5]
      · rw [if_neg h5]
        have h6 : ¬ (((l[k]'(by omega)).toNat : Int) = 47) := fun h => h5 (h3.1 h)
        simp [h6]
  exact this _ (Nat.le_refl _)

/-- what was put out without its last segment -/
def back (l : List UInt8) : List UInt8 := l.take (max (last l) 0).toNat
theorem back_le (l : List UInt8) : (back l).length ≤ l.length := by unfold back; rw [List.length_take]; omega

structure P5 where
  sc : List UInt8
  au : List UInt8
  pa : List UInt8
  qu : List UInt8
  fr : List UInt8

def P5.val (p : P5) : Value := .agg #[.string (B p.sc), .string (B p.au), .string (B p.pa), .string (B p.qu), .string (B p.fr)]

def spS (l : List UInt8) : List UInt8 × List UInt8 := if up [58, 47, 63, 35] l ≠ 0 ∧ hp [58] (l.drop (up [58, 47, 63, 35] l)) = true then (l.take (up [58, 47, 63, 35] l + 1), l.drop (up [58, 47, 63, 35] l + 1)) else ([], l)
def spA (l : List UInt8) : List UInt8 × List UInt8 := if hp [47, 47] l = true then (l.take (2 + up [47, 63, 35] (l.drop 2)), l.drop (2 + up [47, 63, 35] (l.drop 2))) else ([], l)
def spP (l : List UInt8) : List UInt8 × List UInt8 := (l.take (up [63, 35] l), l.drop (up [63, 35] l))
def spQ (l : List UInt8) : List UInt8 × List UInt8 := if hp [63] l = true then (l.take (up [35] l), l.drop (up [35] l)) else ([], l)

def split (l : List UInt8) : P5 := ⟨(spS l).1, (spA (spS l).2).1, (spP (spA (spS l).2).2).1, (spQ (spP (spA (spS l).2).2).2).1, (spQ (spP (spA (spS l).2).2).2).2⟩

theorem spS_cat (l : List UInt8) : (spS l).1 ++ (spS l).2 = l := by unfold spS; split <;> simp
theorem spA_cat (l : List UInt8) : (spA l).1 ++ (spA l).2 = l := by unfold spA; split <;> simp
theorem spP_cat (l : List UInt8) : (spP l).1 ++ (spP l).2 = l := by unfold spP; simp
theorem spQ_cat (l : List UInt8) : (spQ l).1 ++ (spQ l).2 = l := by unfold spQ; split <;> simp
theorem split_cat (l : List UInt8) : (split l).sc ++ (split l).au ++ (split l).pa ++ (split l).qu ++ (split l).fr = l := by
  unfold split
  simp only
  rw [List.append_assoc, spQ_cat, List.append_assoc, spP_cat, List.append_assoc, spA_cat, spS_cat]
theorem cat_len {a b c : List UInt8} (h : a ++ b = c) : a.length + b.length = c.length := by rw [← h, List.length_append]
theorem split_len (l : List UInt8) : (split l).sc.length + (split l).au.length + (split l).pa.length + (split l).qu.length + (split l).fr.length = l.length := by
  have h := congrArg List.length (split_cat l)
  simp only [List.length_append] at h
  omega

theorem hp_one {c : UInt8} {l : List UInt8} : hp [c] l = true ↔ l[0]? = some c := by
  unfold hp
  cases l with
  | nil => simp
  | cons a l => simp

/-- one step of a path's way to one without dots -/
def dstep (s out : List UInt8) : List UInt8 × List UInt8 :=
  if hp [46, 46, 47] s then (s.drop 3, out)
  else if hp [46, 47] s then (s.drop 2, out)
  else if hp [47, 46, 47] s then (s.drop 2, out)
  else if s = [47, 46] then ([47], out)
  else if hp [47, 46, 46, 47] s then (s.drop 3, back out)
  else if s = [47, 46, 46] then ([47], back out)
  else if s = [46] ∨ s = [46, 46] then ([], out)
  else (s.drop (1 + up [47] (s.drop 1)), out ++ s.take (1 + up [47] (s.drop 1)))
def dotsF : Nat → List UInt8 → List UInt8 → List UInt8
  | 0, _, out => out
  | k + 1, s, out => if s = [] then out else dotsF k (dstep s out).1 (dstep s out).2
def dots (s : List UInt8) : List UInt8 := dotsF s.length s []

theorem up_drop_le (st l : List UInt8) (h : l ≠ []) : 1 + up st (l.drop 1) ≤ l.length := by
  have h1 := up_le st (l.drop 1)
  rw [List.length_drop] at h1
  have : 0 < l.length := List.length_pos_iff.2 h
  omega
theorem dstep_lt {s out : List UInt8} (h : s ≠ []) : (dstep s out).1.length < s.length ∧ (dstep s out).2.length + (dstep s out).1.length ≤ out.length + s.length := by
  have hb := back_le out
  have hpos : 0 < s.length := List.length_pos_iff.2 h
  unfold dstep
  split
  · next h1 => have := hp_length h1; simp at this; simp; omega
  split
  · next h1 => have := hp_length h1; simp at this; simp; omega
  split
  · next h1 => have := hp_length h1; simp at this; simp; omega
  split
  · next h1 => subst h1; simp
  split
  · next h1 => have := hp_length h1; simp at this; simp; omega
  split
  · next h1 => subst h1; simp; omega
  split
  · simp; omega
  · have := up_drop_le [47] s h
    simp; omega
theorem dotsF_len : ∀ (k : Nat) (s out : List UInt8), (dotsF k s out).length ≤ out.length + s.length := by
  intro k
  induction k with
  | zero => intro s out; simp [dotsF]
  | succ k ih =>
    intro s out
    unfold dotsF
    split
    · omega
    · next h =>
      have h1 := dstep_lt (out := out) h
      have h2 := ih (dstep s out).1 (dstep s out).2
      omega
theorem dots_len (s : List UInt8) : (dots s).length ≤ s.length := by
  have := dotsF_len s.length s []
  simpa [dots] using this

def beside (x : P5) (r : List UInt8) : List UInt8 := if x.pa = [] ∧ x.au ≠ [] then 47 :: r else x.pa.take (last x.pa + 1).toNat ++ r

def resolve (base ref : List UInt8) : List UInt8 :=
  if (split ref).sc ≠ [] then (split ref).sc ++ (split ref).au ++ dots (split ref).pa ++ (split ref).qu ++ (split ref).fr
  else if (split ref).au ≠ [] then (split base).sc ++ (split ref).au ++ dots (split ref).pa ++ (split ref).qu ++ (split ref).fr
  else if (split ref).pa = [] then (split base).sc ++ (split base).au ++ (split base).pa ++ (if (split ref).qu = [] then (split base).qu else (split ref).qu) ++ (split ref).fr
  else if (split ref).pa[0]? = some 47 then (split base).sc ++ (split base).au ++ dots (split ref).pa ++ (split ref).qu ++ (split ref).fr
  else (split base).sc ++ (split base).au ++ dots (beside (split base) (split ref).pa) ++ (split ref).qu ++ (split ref).fr

end Go.Proofs.Ytkhdadbbgfjcgaa
