/- joins as rows, but for their order; texts tell solutions of a few names and terms apart. -/
import Derived.Test.YtkhdadbbgfjcgaaSolJp
import Derived.Test.YtkhdadbbgfjcgaaSolU
namespace Go.Proofs.Ytkhdadbbgfjcgaa
set_option linter.unusedVariables false

section
variable {α β γ : Type}
theorem flatMap_perm {l l' : List α} (h : l.Perm l') (f : α → List β) : (l.flatMap f).Perm (l'.flatMap f) := by
  induction h with
  | nil => exact .refl _
  | cons x h ih => rw [List.flatMap_cons, List.flatMap_cons]; exact ih.append_left _
  | swap x y l =>
    simp only [List.flatMap_cons]
    rw [← List.append_assoc, ← List.append_assoc]
    exact (List.perm_append_comm).append_right _
  | trans h1 h2 i1 i2 => exact i1.trans i2
theorem flatMap_app (m : List β) (h k : β → List γ) : (m.flatMap (fun y => h y ++ k y)).Perm (m.flatMap h ++ m.flatMap k) := by
  induction m with
  | nil => exact .refl _
  | cons y m ih =>
    simp only [List.flatMap_cons]
    have h1 := ih.append_left (h y ++ k y)
    refine h1.trans ?_
    rw [List.append_assoc, List.append_assoc]
    refine List.Perm.append_left _ ?_
    rw [← List.append_assoc, ← List.append_assoc]
    exact (List.perm_append_comm).append_right _
theorem flatMap_swap (l : List α) (m : List β) (g : α → β → List γ) : (l.flatMap (fun x => m.flatMap (g x))).Perm (m.flatMap (fun y => l.flatMap (fun x => g x y))) := by
  induction l with
  | nil => simp
  | cons x l ih =>
    simp only [List.flatMap_cons]
    exact (ih.append_left _).trans (flatMap_app m _ _).symm
theorem flatMap_fun {l : List α} {f g : α → List β} (h : ∀ x ∈ l, f x = g x) : l.flatMap f = l.flatMap g := by
  induction l with
  | nil => rfl
  | cons x l ih => rw [List.flatMap_cons, List.flatMap_cons, h x (List.mem_cons_self ..), ih (fun y hy => h y (List.mem_cons_of_mem _ hy))]
end
theorem mts_flat (s : Sl) : ∀ l : List Sl, mts s l = l.flatMap (fun t => (meetP s t).toList)
  | [] => rfl
  | t :: l => by
    have ih := mts_flat s l
    unfold mts at ih ⊢
    rw [List.flatMap_cons, ← ih]
    cases h : meetP s t with
    | none => rw [List.filterMap_cons_none h]; rfl
    | some x => rw [List.filterMap_cons_some h]; rfl
theorem allF_flat (a b : List Sl) : allP false a b = a.flatMap (fun s => b.flatMap (fun t => (meetP s t).toList)) := by
  unfold allP
  refine flatMap_fun (fun s _ => ?_)
  unfold rowP
  rw [if_neg (by simp), mts_flat]

abbrev AscL (a : List Sl) : Prop := ∀ s ∈ a, Asc s
theorem all_comm {a b b' : List Sl} (ha : AscL a) (hb : AscL b) (hp : b'.Perm a) : (allP false a b).Perm (allP false b b') := by
  rw [allF_flat, allF_flat]
  refine (flatMap_swap a b _).trans ?_
  have h : (b.flatMap fun t => a.flatMap fun s => (meetP s t).toList) = b.flatMap fun t => a.flatMap fun s => (meetP t s).toList :=
    flatMap_fun (fun t ht => flatMap_fun (fun s hs => by rw [meet_comm (ha s hs) (hb t ht)]))
  rw [h]
  have h2 : ∀ l : List Sl, (l.flatMap fun t => a.flatMap fun s => (meetP t s).toList).Perm (l.flatMap fun t => b'.flatMap fun s => (meetP t s).toList) := by
    intro l
    induction l with
    | nil => exact .refl _
    | cons t l ih => simp only [List.flatMap_cons]; exact (flatMap_perm hp.symm _).append ih
  exact h2 b
theorem all_assoc {a b c x y : List Sl} (ha : AscL a) (hb : AscL b) (hc : AscL c) (hx : x.Perm (allP false a b)) (hy : y.Perm (allP false b c)) : (allP false x c).Perm (allP false a y) := by
  rw [allF_flat x c, allF_flat a y]
  refine (flatMap_perm hx _).trans ?_
  rw [allF_flat a b, List.flatMap_assoc]
  have hy2 : ∀ l : List Sl, (l.flatMap fun s => (b.flatMap fun t => c.flatMap fun u => (meetP t u).toList).flatMap fun z => (meetP s z).toList).Perm (l.flatMap fun s => y.flatMap fun z => (meetP s z).toList) := by
    intro l
    rw [allF_flat] at hy
    induction l with
    | nil => exact .refl _
    | cons s l ih => simp only [List.flatMap_cons]; exact (flatMap_perm hy.symm _).append ih
  refine List.Perm.trans ?_ (hy2 a)
  refine List.Perm.of_eq (flatMap_fun (fun s hs => ?_))
  rw [List.flatMap_assoc, List.flatMap_assoc]
  refine flatMap_fun (fun t ht => ?_)
  rw [List.flatMap_assoc]
  have hm : ∀ u ∈ c, ((meetP t u).toList.flatMap fun z => (meetP s z).toList) = ((meetP s t).bind fun z => meetP z u).toList := fun u hu => by
    rw [meet_assoc (ha s hs) (hb t ht) (hc u hu)]
    cases meetP t u with
    | none => rfl
    | some z => simp
  rw [flatMap_fun hm]
  cases meetP s t with
  | none => simp
  | some z => simp

/-! texts -/
def goods : List Pr := (List.range 4).flatMap fun i => (List.range 3).map fun k => ([UInt8.ofNat (97 + i)], tm (19 + k))
def GoodS (s : Sl) : Prop := ∀ p ∈ s, p ∈ goods
theorem goods_len : ∀ p ∈ goods, (pairP p).length = 7 := by
  intro p hp
  have h : (goods.all fun p => (pairP p).length == 7) = true := by kernel_rfl
  simpa using List.all_eq_true.1 h p hp
theorem goods_inj : ∀ p ∈ goods, ∀ q ∈ goods, pairP p = pairP q → p = q := by
  intro p hp q hq
  have h : (goods.all fun p => goods.all fun q => !(pairP p == pairP q) || (p == q)) = true := by kernel_rfl
  have h := List.all_eq_true.1 (List.all_eq_true.1 h p hp) q hq
  intro e
  rw [e] at h
  simpa using h
theorem text_inj : ∀ {s t : Sl}, GoodS s → GoodS t → textP s = textP t → s = t
  | [], [], _, _, _ => rfl
  | [], q :: t, _, ht, h => by
    have := congrArg List.length h
    have h7 := goods_len q (ht q (List.mem_cons_self ..))
    unfold textP at this
    simp only [List.flatMap_nil, List.flatMap_cons, List.length_nil, List.length_append] at this
    omega
  | p :: s, [], hs, _, h => by
    have := congrArg List.length h
    have h7 := goods_len p (hs p (List.mem_cons_self ..))
    unfold textP at this
    simp only [List.flatMap_nil, List.flatMap_cons, List.length_nil, List.length_append] at this
    omega
  | p :: s, q :: t, hs, ht, h => by
    have hp := hs p (List.mem_cons_self ..)
    have hq := ht q (List.mem_cons_self ..)
    unfold textP at h
    rw [List.flatMap_cons, List.flatMap_cons] at h
    have h2 := List.append_inj h (by rw [goods_len p hp, goods_len q hq])
    rw [goods_inj p hp q hq h2.1, text_inj (fun r hr => hs r (List.mem_cons_of_mem _ hr)) (fun r hr => ht r (List.mem_cons_of_mem _ hr)) h2.2]
theorem one_good (n : Int) : GoodS (oneP n) := by
  intro p hp
  obtain ⟨i, hi, hp⟩ := List.mem_filterMap.1 hp
  rw [List.mem_range] at hi
  unfold onePart at hp
  split at hp
  · rename_i hk
    cases hp
    refine List.mem_flatMap.2 ⟨i, List.mem_range.2 hi, List.mem_map.2 ⟨_, List.mem_range.2 ?_, rfl⟩⟩
    have := Int.emod_nonneg (n.tdiv (5 * 5 ^ i : Nat)) (show (5 : Int) ≠ 0 by omega)
    omega
  · cases hp
theorem meet_mem : ∀ {b a x : Sl}, meetP a b = some x → ∀ p ∈ x, p ∈ a ∨ p ∈ b
  | [], a, x, h, p, hp => by simp [meetP] at h; subst h; exact .inl hp
  | q :: b, a, x, h, p, hp => by
    unfold meetP at h
    obtain ⟨y, hy, hx⟩ := Option.bind_eq_some_iff.1 h
    rcases meet_mem hx p hp with h1 | h1
    · rcases setP_mem hy p h1 with h2 | rfl
      · exact .inl h2
      · exact .inr (List.mem_cons_self ..)
    · exact .inr (List.mem_cons_of_mem _ h1)
theorem all_good {a b : List Sl} (ha : ∀ s ∈ a, GoodS s) (hb : ∀ s ∈ b, GoodS s) : ∀ s ∈ allP false a b, GoodS s := by
  intro x hx
  rw [allF_flat] at hx
  obtain ⟨s, hs, hx⟩ := List.mem_flatMap.1 hx
  obtain ⟨t, ht, hx⟩ := List.mem_flatMap.1 hx
  have hm : meetP s t = some x := by
    cases h : meetP s t with
    | none => rw [h] at hx; cases hx
    | some z => rw [h] at hx; simp at hx; rw [hx]
  intro p hp
  rcases meet_mem hm p hp with h | h
  · exact ha s hs p h
  · exact hb t ht p h
theorem srt_perm_eq {l l' : List Sl} (h : l.Perm l') (hg : ∀ s ∈ l, GoodS s) : srt textP l = srt textP l' := by
  refine srt_ev (fun t => ?_)
  have hp := h.filter (fun x => textP x == t)
  cases hf : l.filter (fun x => textP x == t) with
  | nil =>
    rw [hf] at hp
    exact (hp.symm.eq_nil).symm
  | cons s r =>
    have hs : s ∈ l.filter (fun x => textP x == t) := by rw [hf]; exact List.mem_cons_self ..
    have hs2 := List.mem_filter.1 hs
    have key : ∀ x ∈ l.filter (fun x => textP x == t), x = s := fun x hx => by
      have hx2 := List.mem_filter.1 hx
      refine text_inj (hg x hx2.1) (hg s hs2.1) ?_
      have e1 : textP x = t := by simpa using hx2.2
      have e2 : textP s = t := by simpa using hs2.2
      rw [e1, e2]
    have e1 : l.filter (fun x => textP x == t) = List.replicate (l.filter (fun x => textP x == t)).length s := List.eq_replicate_iff.2 ⟨rfl, key⟩
    have e2 : l'.filter (fun x => textP x == t) = List.replicate (l.filter (fun x => textP x == t)).length s := List.eq_replicate_iff.2 ⟨hp.length_eq.symm, fun x hx => key x (hp.mem_iff.2 hx)⟩
    rw [← hf, e2, ← e1]

/-! turned -/
theorem range_get {α : Type} (L : List α) : ∀ i, (List.range i).filterMap (fun k => L[k]?) = L.take i
  | 0 => by simp
  | i + 1 => by
    rw [List.range_succ, List.filterMap_append, range_get L i, List.take_add_one]
    cases h : L[i]? <;> simp [h]
def turnP {α : Type} (L : List α) (r i : Nat) : List α := (List.range i).filterMap (fun k => L[(k + r) % L.length]?)
theorem range_turn (n r : Nat) (hr : r < n) : ((List.range n).map (fun k => (k + r) % n)).Perm (List.range n) := by
  have e1 : List.range n = List.range (n - r) ++ (List.range r).map (fun j => (n - r) + j) := by
    have := List.range_add (n := n - r) (m := r)
    rwa [show n - r + r = n by omega] at this
  have e2 : List.range n = List.range r ++ (List.range (n - r)).map (fun j => r + j) := by
    have := List.range_add (n := r) (m := n - r)
    rwa [show r + (n - r) = n by omega] at this
  have e3 : (List.range n).map (fun k => (k + r) % n) = (List.range (n - r)).map (fun j => r + j) ++ List.range r := by
    rw [e1, List.map_append, List.map_map]
    congr 1
    · refine List.map_congr_left (fun k hk => ?_)
      rw [List.mem_range] at hk
      rw [Nat.mod_eq_of_lt (by omega)]; omega
    · have : (List.range r).map ((fun k => (k + r) % n) ∘ fun j => n - r + j) = (List.range r).map id := by
        refine List.map_congr_left (fun j hj => ?_)
        rw [List.mem_range] at hj
        show (n - r + j + r) % n = j
        rw [show n - r + j + r = j + n by omega, Nat.add_mod_right, Nat.mod_eq_of_lt (by omega)]
      rw [this, List.map_id]
  rw [e3]
  conv => rhs; rw [e2]
  exact List.perm_append_comm
theorem turn_perm {α : Type} (L : List α) (r : Nat) (hr : r < L.length) : (turnP L r L.length).Perm L := by
  have h := (range_turn L.length r hr).filterMap (fun k => L[k]?)
  rw [List.filterMap_map, range_get, List.take_length] at h
  exact h
theorem turn_succ {α : Type} (L : List α) (r i : Nat) (h : (i + r) % L.length < L.length) : turnP L r (i + 1) = turnP L r i ++ [L[(i + r) % L.length]] := by
  unfold turnP
  rw [List.range_succ, List.filterMap_append]
  simp [h]
end Go.Proofs.Ytkhdadbbgfjcgaa
