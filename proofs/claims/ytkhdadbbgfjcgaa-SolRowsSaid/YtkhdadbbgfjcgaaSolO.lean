/- stable sorting as pure data: what is in order, and has each key's in the order that it had, is one row alone. -/
import Derived.Test.YtkhdadbbgfjcgaaSolP
namespace Go.Proofs.Ytkhdadbbgfjcgaa
set_option linter.unusedVariables false

section
variable {α : Type} (key : α → List UInt8)

def insF (x : α) : List α → List α
  | [] => [x]
  | y :: ys => if ltB (key y) (key x) = true then y :: insF x ys else x :: y :: ys
def srt : List α → List α
  | [] => []
  | x :: l => insF key x (srt l)
def Sd (l : List α) : Prop := l.Pairwise (fun a b => ltB (key b) (key a) = false)
def Ev (l l' : List α) : Prop := ∀ t, l.filter (fun x => key x == t) = l'.filter (fun x => key x == t)

variable {key}
theorem Ev.rfl' (l : List α) : Ev key l l := fun _ => rfl
theorem Ev.symm {l l' : List α} (h : Ev key l l') : Ev key l' l := fun t => (h t).symm
theorem Ev.trans {a b c : List α} (h : Ev key a b) (k : Ev key b c) : Ev key a c := fun t => (h t).trans (k t)
theorem Ev.app {a a' b b' : List α} (h : Ev key a a') (k : Ev key b b') : Ev key (a ++ b) (a' ++ b') := fun t => by
  rw [List.filter_append, List.filter_append, h t, k t]
theorem Ev.cons {x : α} {b b' : List α} (k : Ev key b b') : Ev key (x :: b) (x :: b') := Ev.app (a := [x]) (a' := [x]) (Ev.rfl' _) k
theorem Ev.mem {a b : List α} (h : Ev key a b) {x : α} : x ∈ a ↔ x ∈ b := by
  have h1 := h (key x)
  have e : ∀ l : List α, x ∈ l ↔ x ∈ l.filter (fun y => key y == key x) := fun l => by rw [List.mem_filter]; simp
  rw [e a, e b, h1]
theorem Ev.comm {a b : List α} (h : ∀ x ∈ a, ∀ y ∈ b, key x ≠ key y) : Ev key (a ++ b) (b ++ a) := fun t => by
  rw [List.filter_append, List.filter_append]
  by_cases ha : ∃ x ∈ a, key x = t
  · obtain ⟨x, hx, rfl⟩ := ha
    have : b.filter (fun y => key y == key x) = [] := List.filter_eq_nil_iff.2 (fun y hy => by simpa using fun e => h x hx y hy e.symm)
    rw [this]; simp
  · have : a.filter (fun y => key y == t) = [] := List.filter_eq_nil_iff.2 (fun y hy => by simpa using fun e => ha ⟨y, hy, e⟩)
    rw [this]; simp

theorem Sd.le {l : List α} (h : Sd key l) {i j : Nat} (hj : j < l.length) (hij : i < j) : ltB (key l[j]) (key l[i]) = false :=
  List.pairwise_iff_getElem.1 h i j (by omega) hj hij
theorem Sd.app {a b : List α} : Sd key (a ++ b) ↔ Sd key a ∧ Sd key b ∧ ∀ x ∈ a, ∀ y ∈ b, ltB (key y) (key x) = false := List.pairwise_append

theorem ev_insF (x : α) : ∀ l : List α, Ev key (insF key x l) (x :: l)
  | [] => Ev.rfl' _
  | y :: ys => by
    unfold insF
    split
    · rename_i h
      refine (Ev.cons (ev_insF x ys)).trans ?_
      have h2 : Ev key ([y] ++ [x]) ([x] ++ [y]) := Ev.comm (fun a ha b hb => by
        simp at ha hb; subst ha; subst hb
        intro e; rw [e, ltB_irr] at h; cases h)
      exact h2.app (Ev.rfl' ys)
    · exact Ev.rfl' _
theorem ev_srt : ∀ l : List α, Ev key (srt key l) l
  | [] => Ev.rfl' _
  | x :: l => (ev_insF x _).trans (Ev.cons (ev_srt l))
theorem sd_insF (x : α) : ∀ l : List α, Sd key l → Sd key (insF key x l)
  | [], _ => List.pairwise_singleton _ _
  | y :: ys, h => by
    have hy := List.pairwise_cons.1 h
    unfold insF
    split
    · rename_i hlt
      refine List.pairwise_cons.2 ⟨fun z hz => ?_, sd_insF x ys hy.2⟩
      rcases List.mem_cons.1 ((ev_insF x ys).mem.1 hz) with rfl | hz
      · exact ltB_asym hlt
      · exact hy.1 z hz
    · rename_i hlt
      have hlt : ltB (key y) (key x) = false := by simpa using hlt
      refine List.pairwise_cons.2 ⟨fun z hz => ?_, h⟩
      rcases List.mem_cons.1 hz with rfl | hz
      · exact hlt
      · exact ltB_le_trans hlt (hy.1 z hz)
theorem sd_srt : ∀ l : List α, Sd key (srt key l)
  | [] => List.Pairwise.nil
  | x :: l => sd_insF x _ (sd_srt l)
theorem sd_uniq : ∀ {l l' : List α}, Sd key l → Sd key l' → Ev key l l' → l = l'
  | [], [], _, _, _ => rfl
  | [], y :: ys, _, _, h => by have := (h.mem (x := y)).2 (List.mem_cons_self ..); cases this
  | x :: xs, [], _, _, h => by have := (h.mem (x := x)).1 (List.mem_cons_self ..); cases this
  | x :: xs, y :: ys, h1, h2, h => by
    have hx := List.pairwise_cons.1 h1
    have hy := List.pairwise_cons.1 h2
    have e1 : ltB (key y) (key x) = false := by
      rcases List.mem_cons.1 ((h.mem (x := y)).2 (List.mem_cons_self ..)) with e | e
      · rw [e, ltB_irr]
      · exact hx.1 y e
    have e2 : ltB (key x) (key y) = false := by
      rcases List.mem_cons.1 ((h.mem (x := x)).1 (List.mem_cons_self ..)) with e | e
      · rw [e, ltB_irr]
      · exact hy.1 x e
    have hk : key x = key y := ltB_tri e2 e1
    have h3 := h (key x)
    have hxy : (key y == key x) = true := by rw [hk]; simp
    rw [List.filter_cons_of_pos (by simp), List.filter_cons_of_pos (p := fun z => key z == key x) hxy] at h3
    injection h3 with h4 h5
    subst h4
    have h6 : Ev key xs ys := fun t => by
      by_cases ht : key x = t
      · subst ht; exact h5
      · have := h t
        rwa [List.filter_cons_of_neg (by simpa using ht), List.filter_cons_of_neg (by simpa using ht)] at this
    rw [sd_uniq hx.2 hy.2 h6]
theorem srt_of {l l' : List α} (h : Sd key l') (k : Ev key l' l) : l' = srt key l := sd_uniq h (sd_srt l) (k.trans (ev_srt l).symm)
theorem srt_self {l : List α} (h : Sd key l) : srt key l = l := (srt_of h (Ev.rfl' l)).symm
theorem srt_ev {l l' : List α} (h : Ev key l l') : srt key l = srt key l' := srt_of (sd_srt l) ((ev_srt l).trans h)
theorem mem_srt {l : List α} {x : α} : x ∈ srt key l ↔ x ∈ l := (ev_srt l).mem
theorem insF_len (x : α) : ∀ l : List α, (insF key x l).length = l.length + 1
  | [] => rfl
  | y :: ys => by unfold insF; split <;> simp [insF_len x ys]
theorem srt_len : ∀ l : List α, (srt key l).length = l.length
  | [] => rfl
  | x :: l => by unfold srt; rw [insF_len, srt_len l]; rfl
theorem insF_perm (x : α) : ∀ l : List α, (insF key x l).Perm (x :: l)
  | [] => .refl _
  | y :: ys => by
    unfold insF; split
    · exact ((insF_perm x ys).cons y).trans (.swap x y ys)
    · exact .refl _
theorem srt_perm : ∀ l : List α, (srt key l).Perm l
  | [] => .refl _
  | x :: l => (insF_perm x _).trans ((srt_perm l).cons x)
theorem srt_map {β : Type} {f : β → α} {k2 : β → List UInt8} (hk : ∀ b, k2 b = key (f b)) : ∀ l : List β, (srt k2 l).map f = srt key (l.map f)
  | [] => rfl
  | x :: l => by
    have hi : ∀ m : List β, (insF k2 x m).map f = insF key (f x) (m.map f) := by
      intro m
      induction m with
      | nil => rfl
      | cons y ys ih =>
        unfold insF
        simp only [List.map_cons, hk]
        split
        · rw [List.map_cons, ih]
        · rfl
    unfold srt
    rw [hi, srt_map hk l]; rfl
/-- one more, behind all that are not behind it -/
theorem srt_snoc {S P Q : List α} {x : α} (hS : Sd key S) (h : S = P ++ Q) (hp : ∀ y ∈ P, ltB (key x) (key y) = false) (hq : ∀ y ∈ Q, ltB (key x) (key y) = true) : P ++ x :: Q = srt key (S ++ [x]) := by
  subst h
  have hs := Sd.app.1 hS
  refine srt_of (Sd.app.2 ⟨hs.1, List.pairwise_cons.2 ⟨fun y hy => ltB_asym (hq y hy), hs.2.1⟩, fun a ha b hb => ?_⟩) ?_
  · rcases List.mem_cons.1 hb with rfl | hb
    · exact hp a ha
    · exact hs.2.2 a ha b hb
  · rw [List.append_assoc]
    refine (Ev.rfl' P).app ?_
    refine (Ev.comm (a := [x]) (b := Q) (fun a ha b hb => ?_))
    simp at ha; subst ha
    intro e; have := hq b hb; rw [e, ltB_irr] at this; cases this
/-- one more, ahead of all that are not ahead of it -/
theorem srt_cons {S P Q : List α} {x : α} (hS : Sd key S) (h : S = P ++ Q) (hp : ∀ y ∈ P, ltB (key y) (key x) = true) (hq : ∀ y ∈ Q, ltB (key y) (key x) = false) : P ++ x :: Q = srt key ([x] ++ S) := by
  subst h
  have hs := Sd.app.1 hS
  refine srt_of (Sd.app.2 ⟨hs.1, List.pairwise_cons.2 ⟨fun y hy => hq y hy, hs.2.1⟩, fun a ha b hb => ?_⟩) ?_
  · rcases List.mem_cons.1 hb with rfl | hb
    · exact ltB_asym (hp a ha)
    · exact hs.2.2 a ha b hb
  · have h1 : Ev key (P ++ [x]) ([x] ++ P) := (Ev.comm (a := P) (b := [x]) (fun a ha b hb => by
      simp at hb; subst hb
      intro e; have := hp a ha; rw [e, ltB_irr] at this; cases this))
    have := h1.app (Ev.rfl' Q)
    simpa using this
/-- two rows, each cut in two -/
theorem srt_cut {A1 A2 B1 B2 : List α} (hA : Sd key (A1 ++ A2)) (hB : Sd key (B1 ++ B2)) (h1 : ∀ x ∈ A1, ∀ y ∈ B2, ltB (key y) (key x) = false) (h2 : ∀ x ∈ A2, ∀ y ∈ B1, ltB (key y) (key x) = true) :
    srt key (A1 ++ B1) ++ srt key (A2 ++ B2) = srt key ((A1 ++ A2) ++ (B1 ++ B2)) := by
  have sa := Sd.app.1 hA
  have sb := Sd.app.1 hB
  refine srt_of (Sd.app.2 ⟨sd_srt _, sd_srt _, fun x hx y hy => ?_⟩) ?_
  · rcases List.mem_append.1 (mem_srt.1 hx) with hx | hx <;> rcases List.mem_append.1 (mem_srt.1 hy) with hy | hy
    · exact sa.2.2 x hx y hy
    · exact h1 x hx y hy
    · exact ltB_asym (h2 y hy x hx)
    · exact sb.2.2 x hx y hy
  · refine ((ev_srt _).app (ev_srt _)).trans ?_
    have hc : Ev key (B1 ++ A2) (A2 ++ B1) := Ev.comm (fun x hx y hy e => by have := h2 y hy x hx; rw [e, ltB_irr] at this; cases this)
    have := ((Ev.rfl' A1).app hc).app (Ev.rfl' B2)
    simpa [List.append_assoc] using this
/-- by the last one, by the first one -/
theorem Sd.last {P : List α} (h : Sd key P) {x : α} (hl : ∀ hh : P ≠ [], ltB (key x) (key (P.getLast hh)) = false) : ∀ y ∈ P, ltB (key x) (key y) = false := by
  intro y hy
  have hne : P ≠ [] := List.ne_nil_of_mem hy
  obtain ⟨i, hi, rfl⟩ := List.mem_iff_getElem.1 hy
  have hlast := hl hne
  rw [List.getLast_eq_getElem] at hlast
  by_cases he : i = P.length - 1
  · subst he; exact hlast
  · exact ltB_le_trans (h.le (i := i) (j := P.length - 1) (by omega) (by omega)) hlast
theorem Sd.lastlt {P : List α} (h : Sd key P) {x : α} (hl : ∀ hh : P ≠ [], ltB (key (P.getLast hh)) (key x) = true) : ∀ y ∈ P, ltB (key y) (key x) = true := by
  intro y hy
  have hne : P ≠ [] := List.ne_nil_of_mem hy
  obtain ⟨i, hi, rfl⟩ := List.mem_iff_getElem.1 hy
  have hlast := hl hne
  rw [List.getLast_eq_getElem] at hlast
  by_cases he : i = P.length - 1
  · subst he; exact hlast
  · have h1 := h.le (i := i) (j := P.length - 1) (by omega) (by omega)
    cases hc : ltB (key P[i]) (key x) with
    | true => rfl
    | false => have h9 := ltB_le_trans hc h1; rw [h9] at hlast; cases hlast
theorem Sd.first {Q : List α} (h : Sd key Q) {x : α} (hl : ∀ hh : Q ≠ [], ltB (key (Q.head hh)) (key x) = false) : ∀ y ∈ Q, ltB (key y) (key x) = false := by
  intro y hy
  cases Q with
  | nil => cases hy
  | cons q qs =>
    have h1 := hl (by simp)
    have h2 := List.pairwise_cons.1 h
    rcases List.mem_cons.1 hy with rfl | hy
    · exact h1
    · exact ltB_le_trans h1 (h2.1 y hy)
theorem Sd.firstlt {Q : List α} (h : Sd key Q) {x : α} (hl : ∀ hh : Q ≠ [], ltB (key x) (key (Q.head hh)) = true) : ∀ y ∈ Q, ltB (key x) (key y) = true := by
  intro y hy
  cases Q with
  | nil => cases hy
  | cons q qs =>
    have h1 := hl (by simp)
    have h2 := List.pairwise_cons.1 h
    rcases List.mem_cons.1 hy with rfl | hy
    · exact h1
    · cases hc : ltB (key x) (key y) with
      | true => rfl
      | false => have h9 := ltB_le_trans (h2.1 y hy) hc; simp only [List.head_cons] at h1; rw [h9] at h1; cases h1
end
end Go.Proofs.Ytkhdadbbgfjcgaa
