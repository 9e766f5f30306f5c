/- btree: where a key stands among a node's. walks through trees: plain laws. walks through a row of kids: plain laws. slices: Clone, Grow and Concat of texts and of numbers. Regions whose order is open: as XOrd, but only some of the stable operations lean on what is known of the memory. Regions whose order is open: as XOrd2, with forks. Regions whose order is open: as XOrd3, with forks in three. -/
import Derived.Test.YtdilkgcoecipjaaBtS
import Derived.Test.YtdilkgcoecipjaaM6
import Derived.Laws.World
import Derived.Test.YtdilkgcoecipjaaM1
namespace Go.Proofs.Ytdilkgcoecipjaa
open Go.RowKit
set_option linter.unusedVariables false

theorem isNaN_any (a : Tx) (w : World) : Calls Try.prog 97 #[.string (B a)] w fun e w' => e = .returned (.bool false) ∧ w' = w := by
  go_enter Try.func97, Try.ntmps97
  go_wp2_with fail
  go_ret
  exact ⟨rfl, rfl⟩
theorem isNaN2_any (a : Tx) (w : World) : Calls Try.prog 92 #[.string (B a)] w fun e w' => e = .returned (.bool false) ∧ w' = w := by
  go_enter Try.func92, Try.ntmps92
  go_wp2_with fail
  go_ret
  exact ⟨rfl, rfl⟩
theorem less_any (a b : Tx) (w : World) : Calls Try.prog 91 #[.string (B a), .string (B b)] w fun e w' => e = .returned (.bool (ltB a b)) ∧ w' = w := by
  go_enter Try.func91, Try.ntmps91
  go_wp2_with fail
  refine (isNaN_any a w).mono ?_; rintro e1 w1 ⟨rfl, hw⟩
  subst hw
  cases h : ltB a b
  all_goals
    go_wp2_with fail
    go_ret
    exact ⟨by rw [h]; rfl, rfl⟩

set_option maxRecDepth 100000 in
set_option maxHeartbeats 2000000 in
theorem bs_any (w : World) (p : Option Addr) (n c : Nat) (l : List Tx) (key : Tx) (hr : Rd w 1 (.slice p n c) n (tv l)) (hn : l.length = n) (hs : l.Pairwise (fun a b => ltB a b = true)) (hl : n ≤ 100000) :
    Calls Try.prog 85 #[.slice p n c, .string (B key)] w fun e w' => e = .returned (.tuple #[.int .i64 (rk l key : Int), .bool (isAt l key)]) ∧ w' = w := by
  have HR := hid hr
  have HS := hid hs
  have HN := hid hn
  clear hr hs hn
  go_enter Try.func85, Try.ntmps85
  go_wp2_with fail
  go_loopw [7, 8] (fun vi vj wr => ∃ (i j : Nat), vi = .int .i64 i ∧ vj = .int .i64 j ∧ i ≤ j ∧ j ≤ n ∧ Hid (∀ x (hx : x < l.length), x < i → ltB l[x] key = true) ∧ Hid (∀ x (hx : x < l.length), j ≤ x → ltB l[x] key = false) ∧ wr = w) (fun vi vj _ => (intOf vj).toNat - (intOf vi).toNat)
  case atStart => exact ⟨0, n, rfl, rfl, Nat.zero_le _, Nat.le_refl _, hid (fun x _ h => by omega), hid (fun x h1 h2 => by have := HN.out; omega), rfl⟩
  case round =>
    obtain ⟨i, j, rfl, rfl, hij, hjn, H1, H2, rfl⟩ := hrel
    by_cases hlt : i < j
    · have hlt2 : (i : Int) < (j : Int) := by omega
      obtain ⟨h, hh⟩ : ∃ h, (i + j) / 2 = h := ⟨_, rfl⟩
      have hhn : h < l.length := by rw [HN.out]; omega
      have hwh : IntKind.i64.wrap (((i : Int) + (j : Int)) / 2) = (h : Int) := by rw [IntWalk.i64_in _ ⟨by omega, by omega⟩]; omega
      obtain ⟨b, o, rfl, hcc⟩ := HR.out.addr (by omega)
      have hc0 : wr.cell? ⟨b, o + h, none⟩ = some (.string (B l[h])) := hcc h _ (tv_get (List.getElem?_eq_getElem hhn))
      obtain ⟨k, hk⟩ : ∃ k, l[h] = k := ⟨_, rfl⟩
      rw [hk] at hc0
      have HK := hid hk
      clear hcc hk
      go_wp2_with fail
      refine (less_any k key wr).mono ?_; rintro e1 wx ⟨rfl, hw⟩
      subst hw
      cases hkk : ltB k key
      · go_wp2_with fail
        have hne : ¬ h = j := by omega
        case roundEnd => exact ⟨⟨i, h, rfl, rfl, by omega, by omega, H1, hid (fun x hx hhx => by
          cases hc : ltB l[x] key with
          | false => rfl
          | true =>
            have h9 := HK.out
            rcases Nat.lt_or_ge h x with h8 | h8
            · have := List.pairwise_iff_getElem.1 HS.out h x hhn hx h8
              rw [h9] at this
              have := ltB_trans this hc
              rw [hkk] at this; cases this
            · have e : x = h := by omega
              subst e
              rw [h9, hkk] at hc; cases hc), by first | exact rfl | exact trivial⟩, by simp [intOf]; omega⟩
      · go_wp2_with fail
        case roundEnd => exact ⟨⟨h + 1, j, by first | rfl | (congr 1; omega) | (congr 1), rfl, by omega, hjn, hid (fun x hx hhx => by
          have h9 := HK.out
          rcases Nat.lt_or_ge x h with h8 | h8
          · have := List.pairwise_iff_getElem.1 HS.out x h hx hhn h8
            rw [h9] at this
            exact ltB_trans this hkk
          · have e : x = h := by omega
            subst e
            rw [h9]; exact hkk), H2, by first | exact rfl | exact trivial⟩, by simp [intOf]; omega⟩
    · have hlt2 : ¬ (i : Int) < (j : Int) := by omega
      have HRK := hid (show rk l key = i from rk_of (by rw [HN.out]; omega) (fun x hx h => H1.out x hx h) (fun hx => H2.out i hx (by omega)))
      by_cases hin : i < n
      · have hin2 : (i : Int) < (n : Int) := by omega
        have hhn : i < l.length := by rw [HN.out]; exact hin
        obtain ⟨b, o, rfl, hcc⟩ := HR.out.addr (by omega)
        have hc0 : wr.cell? ⟨b, o + i, none⟩ = some (.string (B l[i])) := hcc i _ (tv_get (List.getElem?_eq_getElem hhn))
        obtain ⟨k, hk⟩ : ∃ k, l[i] = k := ⟨_, rfl⟩
        rw [hk] at hc0
        have HIS := hid (show isAt l key = (k == key) by
          unfold isAt
          rw [HRK.out, List.getElem?_eq_getElem hhn, hk]
          rfl)
        clear hcc hk
        cases hkk : (k == key)
        · go_wp2_with fail
          refine (isNaN2_any k wr).mono ?_; rintro e1 wx ⟨rfl, hw⟩
          subst hw
          go_wp2_with fail
          go_ret2
          exact ⟨by rw [HRK.out, HIS.out, hkk]; rfl, rfl⟩
        · go_wp2_with fail
          go_ret2
          exact ⟨by rw [HRK.out, HIS.out, hkk]; rfl, rfl⟩
      · have hin2 : ¬ (i : Int) < (n : Int) := by omega
        have HIS := hid (show isAt l key = false by
          unfold isAt
          rw [HRK.out, List.getElem?_eq_none (by rw [HN.out]; omega)]
          rfl)
        go_wp2_with fail
        go_ret2
        exact ⟨by rw [HRK.out, HIS.out]; rfl, rfl⟩

/-- a node's place; which kid has a key -/
theorem place_any (w : World) (n : Nd) (lf : Bool) (pk : Option Addr) (nk ck : Nat) (pv : Option Addr) (nv cv : Nat) (pd : Option Addr) (nd cd : Nat) (key : Tx) (hr : Rd w 1 (.slice pk nk ck) nk (tv n.keys)) (hn : n.keys.length = nk) (hs : n.keys.Pairwise (fun a b => ltB a b = true)) (hl : nk ≤ 100000) :
    Calls Try.prog 74 #[ndV lf pk nk ck pv nv cv pd nd cd, .string (B key)] w fun e w' => e = .returned (.tuple #[.int .i64 (rk n.keys key : Int), .bool (isAt n.keys key)]) ∧ Below w.heap.size w w' := by
  have HR := hid hr
  have HN := hid hn
  have HS := hid hs
  clear hr hn hs
  unfold ndV
  go_enter Try.func74, Try.ntmps74
  go_wp2_with fail
  have hb := (Below.refl w.heap.size w).alloc (Nat.le_refl _) (.cells #[.bool lf, .slice pk nk ck, .slice pv nv cv, .slice pd nd cd] TN)
  refine (bs_any _ pk nk ck n.keys key (HR.out.new hb) HN.out HS.out hl).mono ?_
  rintro e1 w1 ⟨rfl, hw⟩
  subst hw
  go_wp2_with fail
  go_ret2
  exact ⟨rfl, hb⟩
theorem down_any (w : World) (n : Nd) (lf : Bool) (pk : Option Addr) (nk ck : Nat) (pv : Option Addr) (nv cv : Nat) (pd : Option Addr) (nd cd : Nat) (key : Tx) (hr : Rd w 1 (.slice pk nk ck) nk (tv n.keys)) (hn : n.keys.length = nk) (hs : n.keys.Pairwise (fun a b => ltB a b = true)) (hl : nk ≤ 100000) :
    Calls Try.prog 67 #[ndV lf pk nk ck pv nv cv pd nd cd, .string (B key)] w fun e w' => e = .returned (.int .i64 (downP n.keys key : Int)) ∧ Below w.heap.size w w' := by
  have HR := hid hr
  have HN := hid hn
  have HS := hid hs
  have hrk := rk_le n.keys key
  rw [hn] at hrk
  clear hr hn hs
  go_enter Try.func67, Try.ntmps67
  unfold ndV
  go_wp2_with fail
  have hb := (Below.refl w.heap.size w).alloc (Nat.le_refl _) (.cells #[.bool lf, .slice pk nk ck, .slice pv nv cv, .slice pd nd cd] TN)
  refine (place_any _ n lf pk nk ck pv nv cv pd nd cd key (HR.out.new hb) HN.out HS.out hl).mono ?_
  rintro e1 w1 ⟨rfl, hb1⟩
  have HB := hid (hb.trans (hb1.mono (by simp)))
  clear hb hb1
  cases hi : isAt n.keys key
  all_goals
    have HD := hid (show downP n.keys key = _ by unfold downP; rw [hi])
    go_wp2_with fail
    go_ret
    exact ⟨by rw [HD.out]; first | done | rfl, HB.out⟩
end Go.Proofs.Ytdilkgcoecipjaa

namespace Go.Proofs.Ytdilkgcoecipjaa
set_option linter.unusedVariables false

theorem take_take_app {α : Type} (x y : List α) (m : Nat) : ((x.take m) ++ y).take m = (x ++ y).take m := by
  by_cases h : x.length ≤ m
  · rw [List.take_of_length_le h]
  · rw [List.take_append_of_le_length (by rw [List.length_take]; omega), List.take_append_of_le_length (by omega), List.take_take, Nat.min_self]
theorem take_full {α : Type} (x y : List α) (m : Nat) (h : m ≤ (x.take m).length) : (x ++ y).take m = x.take m := by
  rw [List.length_take] at h
  rw [List.take_append_of_le_length (by omega)]
theorem rngM_app (a b : List En) (f t : Tx) : rngM (a ++ b) f t = rngM a f t ++ rngM b f t := List.filter_append ..
theorem rngM_low {l : List En} {f t : Tx} (h : ∀ e ∈ l, ltB e.1 f = true) : rngM l f t = [] := by
  unfold rngM
  rw [List.filter_eq_nil_iff]
  intro e he
  simp [inR, h e he]
theorem rngM_high {l : List En} {f t : Tx} (ht : t ≠ []) (h : ∀ e ∈ l, ltB e.1 t = false) : rngM l f t = [] := by
  unfold rngM
  rw [List.filter_eq_nil_iff]
  intro e he
  simp [inR, h e he, ht]
theorem rngM_all (l : List En) : rngM l [] [] = l := by
  unfold rngM
  rw [List.filter_eq_self]
  intro e he
  simp [inR, ltB_nil]
/-- the tokens of the kids from one on -/
def flK {α : Type} (tk : α → List Tok) : List α → List Tx → List Tok
  | [], _ => []
  | k :: ks, [] => tk k
  | k :: ks, s :: ss => tk k ++ sep s :: flK tk ks ss
theorem fl_flK {α : Type} (tk : α → List Tok) : ∀ (l : List (Tx × α)) (t : α), fl tk (t, l) = flK tk (kidsR (t, l)) (keysR (t, l))
  | [], t => by simp [fl, flK, kidsR, keysR]
  | x :: l, t => by rw [fl_cons, fl_flK tk l x.2]; rfl
theorem flK_drop {α : Type} (tk : α → List Tok) : ∀ (ks : List α) (ss : List Tx) (i : Nat), ks.length = ss.length + 1 → i < ks.length →
    ∃ P, flK tk ks ss = P ++ flK tk (ks.drop i) (ss.drop i) ∧ ((i = 0 ∧ P = []) ∨ ∃ P' k, P = P' ++ [sep k] ∧ 0 < i ∧ ss[i - 1]? = some k)
  | ks, ss, 0, _, _ => ⟨[], rfl, .inl ⟨rfl, rfl⟩⟩
  | [], ss, i + 1, h, hi => by simp at hi
  | k :: ks, [], i + 1, h, hi => by simp at h; subst h; simp at hi
  | k :: ks, s :: ss, i + 1, h, hi => by
    obtain ⟨P, h1, h2⟩ := flK_drop tk ks ss i (by simpa using h) (by simpa using hi)
    refine ⟨tk k ++ sep s :: P, by rw [flK, h1]; simp, .inr ?_⟩
    rcases h2 with ⟨rfl, rfl⟩ | ⟨P', k', rfl, h3, h4⟩
    · exact ⟨tk k, s, rfl, by omega, rfl⟩
    · obtain ⟨j, rfl⟩ : ∃ j, i = j + 1 := ⟨i - 1, by omega⟩
      exact ⟨tk k ++ sep s :: P', k', by simp, by omega, by simpa using h4⟩
theorem flK_cons {α : Type} (tk : α → List Tok) {ks : List α} {ss : List Tx} (h : ks.length = ss.length + 1) {i : Nat} {k : α} (hi : ks[i]? = some k) :
    (i + 1 = ks.length ∧ flK tk (ks.drop i) (ss.drop i) = tk k) ∨ ∃ s, ss[i]? = some s ∧ i + 1 < ks.length ∧ flK tk (ks.drop i) (ss.drop i) = tk k ++ sep s :: flK tk (ks.drop (i + 1)) (ss.drop (i + 1)) := by
  obtain ⟨hl, rfl⟩ := List.getElem?_eq_some_iff.1 hi
  rw [List.drop_eq_getElem_cons hl]
  by_cases he : i + 1 = ks.length
  · refine .inl ⟨he, ?_⟩
    rw [List.drop_eq_nil_of_le (show ss.length ≤ i by omega)]
    rfl
  · have hs : i < ss.length := by omega
    refine .inr ⟨ss[i], List.getElem?_eq_getElem hs, by omega, ?_⟩
    rw [List.drop_eq_getElem_cons hs]
    rfl
theorem asc_keys {α : Type} (tk : α → List Tok) : ∀ (l : List (Tx × α)) (t : α), Asc (fl tk (t, l)) → (keysR (t, l)).Pairwise (fun a b => ltB a b = true)
  | [], t, _ => List.Pairwise.nil
  | x :: l, t, h => by
    rw [fl_cons] at h
    have h2 := (asc_app.1 h).2.1
    have h3 := asc_cons.1 h2
    refine List.pairwise_cons.2 ⟨fun b hb => ?_, asc_keys tk l x.2 h3.2⟩
    have hm : sep b ∈ fl tk (x.2, l) := by
      obtain ⟨y, hy, rfl⟩ := List.mem_map.1 hb
      exact List.mem_append_right _ (List.mem_flatMap.2 ⟨y, hy, List.mem_cons_self ..⟩)
    exact Tok.lt_ss (h3.1 _ hm) rfl
/-- a kid's tokens are in order -/
theorem asc_kid {α : Type} (tk : α → List Tok) {t : α} {l : List (Tx × α)} (h : Asc (fl tk (t, l))) {c : α} (hc : c ∈ kidsR (t, l)) : Asc (tk c) := by
  obtain ⟨i, hi⟩ := List.mem_iff_getElem?.1 hc
  obtain ⟨P, Q, h1, _⟩ := row_at tk t l i c hi
  rw [h1] at h
  exact (asc_app.1 (asc_app.1 h).1).2.1
/-- what a key's kid has ahead of it is less, and behind it is greater -/
theorem down_split {α : Type} (tk : α → List Tok) {t : α} {l : List (Tx × α)} (h : Asc (fl tk (t, l))) {key : Tx} {c : α} (hc : (kidsR (t, l))[downP (keysR (t, l)) key]? = some c) :
    ∃ P Q, fl tk (t, l) = P ++ tk c ++ Q ∧ (∀ r, fl tk (rput t l (downP (keysR (t, l)) key) r) = P ++ fl tk r ++ Q) ∧ (∀ x ∈ P, ∀ y : Tok, y = ent (key, []) → x.lt y) ∧ (∀ x ∈ Q, ltB key x.k = true) ∧
      ((downP (keysR (t, l)) key = 0 ∧ P = []) ∨ ∃ P' k, P = P' ++ [sep k] ∧ ltB key k = false) := by
  have hk := asc_keys tk l t h
  obtain ⟨P, Q, h1, h2, h3, h4⟩ := row_at tk t l _ c hc
  rw [h1] at h
  obtain ⟨a1, a2, a3⟩ := asc_app.1 h
  obtain ⟨a4, a5, a6⟩ := asc_app.1 a1
  have hlow : ∀ i k, (keysR (t, l))[i]? = some k → i < downP (keysR (t, l)) key → ltB key k = false := by
    intro i k hi hlt
    obtain ⟨hil, rfl⟩ := List.getElem?_eq_some_iff.1 hi
    unfold downP at hlt
    split at hlt
    · rename_i hs
      rcases Nat.lt_or_ge i (rk (keysR (t, l)) key) with h5 | h5
      · exact ltB_asym (rk_lt _ _ _ hil h5)
      · obtain rfl : i = rk (keysR (t, l)) key := by omega
        rw [isAt_eq hs, ltB_irr]
    · exact ltB_asym (rk_lt _ _ _ hil hlt)
  have hhigh : ∀ k, (keysR (t, l))[downP (keysR (t, l)) key]? = some k → ltB key k = true := by
    intro k hi
    obtain ⟨hil, rfl⟩ := List.getElem?_eq_some_iff.1 hi
    by_cases hs : isAt (keysR (t, l)) key = true
    · have e : downP (keysR (t, l)) key = rk (keysR (t, l)) key + 1 := if_pos hs
      have h6 := List.pairwise_iff_getElem.1 hk (rk (keysR (t, l)) key) (rk (keysR (t, l)) key + 1) (isAt_lt hs) (by rw [← e]; exact hil) (by omega)
      rw [isAt_eq hs] at h6
      simpa only [e] using h6
    · have e : downP (keysR (t, l)) key = rk (keysR (t, l)) key := if_neg hs
      have h6 := rk_at (keysR (t, l)) key (by rw [← e]; exact hil)
      simp only [e]
      cases hc2 : ltB key (keysR (t, l))[rk (keysR (t, l)) key] with
      | true => rfl
      | false =>
        exfalso
        apply hs
        unfold isAt
        rw [List.getElem?_eq_getElem (by rw [← e]; exact hil)]
        exact beq_iff_eq.2 (congrArg some (ltB_tri hc2 h6).symm)
  refine ⟨P, Q, h1, h2, ?_, ?_, ?_⟩
  · intro x hx y hy
    subst hy
    rcases h3 with ⟨h5, rfl⟩ | ⟨P', k, rfl, h5, h6⟩
    · cases hx
    · have h7 := hlow _ k h6 (by omega)
      rcases List.mem_append.1 hx with hx | hx
      · have h8 := (asc_app.1 a4).2.2 x hx (sep k) (List.mem_singleton_self _)
        exact .inl (ltB_lt_le (Tok.lt_ss h8 rfl) h7)
      · rw [List.mem_singleton.1 hx]
        cases h9 : ltB k key with
        | true => exact .inl h9
        | false => exact .inr ⟨ltB_tri h9 h7, rfl, by simp⟩
  · intro x hx
    rcases h4 with ⟨h5, rfl⟩ | ⟨Q', k, rfl, h5⟩
    · cases hx
    · have h7 := hhigh k h5
      rcases List.mem_cons.1 hx with rfl | hx
      · exact h7
      · have h8 := (asc_cons.1 a2).1 x hx
        exact ltB_lt_le h7 (Tok.lt_le h8)
  · rcases h3 with ⟨h5, rfl⟩ | ⟨P', k, rfl, h5, h6⟩
    · exact .inl ⟨h5, rfl⟩
    · exact .inr ⟨P', k, rfl, hlow _ k h6 (by omega)⟩
end Go.Proofs.Ytdilkgcoecipjaa

namespace Go.Proofs.Ytdilkgcoecipjaa
set_option linter.unusedVariables false

section
variable {α : Type} (tk : α → List Tok) {t : α} {l : List (Tx × α)}
theorem down_low {t : α} {l : List (Tx × α)} {key : Tx} {i : Nat} {k : Tx} (hi : (keysR (t, l))[i]? = some k) (hlt : i < downP (keysR (t, l)) key) : ltB key k = false := by
  obtain ⟨hil, rfl⟩ := List.getElem?_eq_some_iff.1 hi
  unfold downP at hlt
  split at hlt
  · rename_i hs
    rcases Nat.lt_or_ge i (rk (keysR (t, l)) key) with h5 | h5
    · exact ltB_asym (rk_lt _ _ _ hil h5)
    · obtain rfl : i = rk (keysR (t, l)) key := by omega
      rw [isAt_eq hs, ltB_irr]
  · exact ltB_asym (rk_lt _ _ _ hil hlt)
theorem flK_low (h : Asc (fl tk (t, l))) (fr to : Tx) :
    rngM (ents (fl tk (t, l))) fr to = rngM (ents (flK tk ((kidsR (t, l)).drop (downP (keysR (t, l)) fr)) ((keysR (t, l)).drop (downP (keysR (t, l)) fr)))) fr to ∧
    (ents (flK tk ((kidsR (t, l)).drop (downP (keysR (t, l)) fr)) ((keysR (t, l)).drop (downP (keysR (t, l)) fr)))).length ≤ (ents (fl tk (t, l))).length := by
  have hd := downP_le (keysR (t, l)) fr
  obtain ⟨P, h1, h2⟩ := flK_drop tk (kidsR (t, l)) (keysR (t, l)) (downP (keysR (t, l)) fr) (kidsR_length _) (by rw [kidsR_length]; omega)
  rw [fl_flK] at h ⊢
  rw [h1] at h
  have hP : rngM (ents P) fr to = [] := by
    refine rngM_low (fun e he => ?_)
    rcases h2 with ⟨_, rfl⟩ | ⟨P', k, rfl, h3, h4⟩
    · cases he
    · rw [ents_app, ents_sep, ents_nil, List.append_nil] at he
      have h5 := (asc_app.1 (asc_app.1 h).1).2.2 _ (mem_ents he) (sep k) (List.mem_singleton_self _)
      exact ltB_lt_le (Tok.lt_ss h5 rfl) (down_low h4 (by omega))
  constructor
  · conv => lhs; rw [h1]
    rw [ents_app, rngM_app, hP, List.nil_append]
  · conv => rhs; rw [h1]
    rw [ents_app, List.length_append]; omega
theorem flK_stop (h : Asc (fl tk (t, l))) {i : Nat} (hi0 : 0 < i) (hi : i < (kidsR (t, l)).length) {k : Tx} (hk : (keysR (t, l))[i - 1]? = some k) {fr to : Tx} (ht : to ≠ []) (hkt : ltB k to = false) :
    rngM (ents (flK tk ((kidsR (t, l)).drop i) ((keysR (t, l)).drop i))) fr to = [] := by
  obtain ⟨P, h1, h2⟩ := flK_drop tk (kidsR (t, l)) (keysR (t, l)) i (kidsR_length _) hi
  rw [fl_flK, h1] at h
  refine rngM_high ht (fun e he => ?_)
  rcases h2 with ⟨h0, _⟩ | ⟨P', k', rfl, h3, h4⟩
  · omega
  · rw [hk] at h4
    cases h4
    have h5 := (asc_app.1 h).2.2 (sep k) (List.mem_append_right _ (List.mem_singleton_self _)) _ (mem_ents he)
    exact ltB_le_trans hkt (Tok.lt_le h5)
theorem flK_step (h : Asc (fl tk (t, l))) {i : Nat} {c : α} (hc : (kidsR (t, l))[i]? = some c) :
    ents (flK tk ((kidsR (t, l)).drop i) ((keysR (t, l)).drop i)) = ents (tk c) ++ ents (flK tk ((kidsR (t, l)).drop (i + 1)) ((keysR (t, l)).drop (i + 1))) ∧
    (∀ e ∈ ents (tk c), ∀ f ∈ ents (flK tk ((kidsR (t, l)).drop (i + 1)) ((keysR (t, l)).drop (i + 1))), ltB e.1 f.1 = true) := by
  have hil := (List.getElem?_eq_some_iff.1 hc).1
  obtain ⟨P, h1, _⟩ := flK_drop tk (kidsR (t, l)) (keysR (t, l)) i (kidsR_length _) hil
  rw [fl_flK, h1] at h
  have h2 := (asc_app.1 h).2.1
  rcases flK_cons tk (kidsR_length (t, l)) hc with ⟨h3, h4⟩ | ⟨s, h3, h5, h4⟩
  · rw [List.drop_eq_nil_of_le (show (kidsR (t, l)).length ≤ i + 1 by omega)]
    rw [h4]
    exact ⟨by simp [flK, ents_nil], fun e _ f hf => by cases hf⟩
  · rw [h4] at h2 ⊢
    refine ⟨by rw [ents_app, ents_sep], fun e he f hf => ?_⟩
    have h6 := (asc_app.1 h2).2.2 _ (mem_ents he) _ (List.mem_cons_of_mem _ (mem_ents hf))
    exact Tok.lt_ee h6 (by simp)
end
theorem down_nil {keys : List Tx} (h : ∀ k ∈ keys, k ≠ []) : downP keys [] = 0 := by
  have h0 : rk keys [] = 0 := by
    cases keys with
    | nil => rfl
    | cons k r => rw [rk, if_neg (by rw [ltB_nil]; simp)]
  have h1 : isAt keys [] = false := by
    unfold isAt
    rw [h0]
    cases keys with
    | nil => rfl
    | cons k r => simpa using h k (List.mem_cons_self ..)
  unfold downP
  rw [h1, h0]
  rfl
/-- a full tree's first kid has an entry, so no key between kids is empty -/
theorem keys_ne {d : Nat} {t : Tr (d + 1)} (h : Asc (toks (d + 1) t)) (hf : Ful (d + 1) t) : ∀ k ∈ keysR t.2, k ≠ [] := by
  obtain ⟨pg, t0, l⟩ := t
  have hc := ful_count d t0 (hf.2 t0 (List.mem_cons_self ..))
  have hpos : 0 < (ents (toks d t0)).length := by have := hc.1; omega
  obtain ⟨e, he⟩ := List.exists_mem_of_length_pos hpos
  intro k hk h0
  have h : Asc (toks d t0 ++ l.flatMap (fun x => sep x.1 :: toks d x.2)) := h
  obtain ⟨x, hx, rfl⟩ := List.mem_map.1 hk
  have h2 := (asc_app.1 h).2.2 _ (mem_ents he) (sep x.1) (List.mem_flatMap.2 ⟨x, hx, List.mem_cons_self ..⟩)
  have h3 := Tok.lt_ss h2 rfl
  rw [show (sep x.1).k = [] from h0, ltB_nil] at h3
  cases h3
end Go.Proofs.Ytdilkgcoecipjaa

namespace Go.Proofs.Ytdilkgcoecipjaa
open Go.RowKit
set_option linter.unusedVariables false

theorem own_empty (w : World) (e : TypeId) (size : Nat) (o : Obj) (ho : o = .cells #[] e (0, 0)) (B0 : Nat) (hB : B0 ≤ w.heap.size) : (w.alloc o).ownsRow B0 e size (.slice (some ⟨w.heap.size, 0, none⟩) 0 0) 0 [] :=
  ⟨by simp, .inr ⟨w.heap.size, 0, #[], rfl, hB, by rw [ho]; exact heap_alloc_new w _, Nat.le_refl _, by simp [maxLen], by simp, by simp⟩⟩

set_option maxRecDepth 100000 in
set_option maxHeartbeats 2000000 in
theorem clone_str (xs : List Value) (p : Option Addr) (n c : Nat) (w : World) (hr : Rd w 1 (.slice p n c) n xs) (h1 : ∀ u ∈ xs, u.oneCell' = true) (hl : n ≤ 100000) :
    Calls Try.prog 31 #[.slice p n c] w fun e w' => ∃ p' c', e = .returned (.slice p' n c') ∧ w'.ownsRow w.heap.size TSt 1 (.slice p' n c') n xs ∧ Below w.heap.size w w' := by
  have HR := hid hr
  have H1 := hid h1
  obtain ⟨hlen, p0, c0, he, hnc, hcm, hp0, _⟩ := hr
  cases he
  clear h1
  cases p with
  | none =>
    have h0 : n = 0 ∧ c = 0 := by have := hp0 rfl; omega
    obtain ⟨rfl, rfl⟩ := h0
    have hs0 : xs = [] := List.eq_nil_of_length_eq_zero (by simpa using hlen)
    subst hs0
    clear hp0
    have heq := Lib.run_eql_slice_nil (P := Try.prog) w TSs _ none 0 0 0 0 Try.underlying33
    go_enter Try.func31, Try.ntmps31
    go_wp2_with fail
    go_ret
    exact ⟨none, 0, rfl, World.ownsRow_nil _ _ _ _, Below.refl _ _⟩
  | some a =>
    clear hp0 hlen hnc hcm
    have heq := Lib.run_eql_slice_nil (P := Try.prog) w TSs _ (some a) n c 0 0 Try.underlying33
    go_enter Try.func31, Try.ntmps31
    go_wp2_with (at_builtin; refine wp_keep ?_)
    refine hid ?_
    refine wpList_append_rd rfl _ _ TSs rfl w.heap.size TSt _ 1 16 Try.underlying33 infoSt rfl (by decide) _ 0 [] rfl (own_empty w TSt 1 _ rfl w.heap.size (Nat.le_refl _)) _ n xs rfl (HR.out.new ((Below.refl _ _).alloc (Nat.le_refl _) _)) H1.out (by simp only [maxLen]; omega) (by omega) (by simp) ?_
    intro p2 c2 w2 ho2 hg2 _
    have hb : Below w.heap.size w w2 := ((Below.refl w.heap.size w).alloc (Nat.le_refl _) _).grown hg2 (by simp) (by intro k hk; cases hk; exact Nat.le_refl _)
    rw [Nat.zero_add] at ho2 ⊢
    rw [List.nil_append] at ho2
    have HO := hid ho2
    have HB := hid hb
    clear ho2 hb hg2
    go_wp2_with fail
    go_ret
    exact ⟨p2, c2, rfl, HO.out, HB.out⟩

set_option maxRecDepth 100000 in
set_option maxHeartbeats 2000000 in
theorem clone_int (xs : List Value) (p : Option Addr) (n c : Nat) (w : World) (hr : Rd w 1 (.slice p n c) n xs) (h1 : ∀ u ∈ xs, u.oneCell' = true) (hl : n ≤ 100000) :
    Calls Try.prog 61 #[.slice p n c] w fun e w' => ∃ p' c', e = .returned (.slice p' n c') ∧ w'.ownsRow w.heap.size TI 1 (.slice p' n c') n xs ∧ Below w.heap.size w w' := by
  have HR := hid hr
  have H1 := hid h1
  obtain ⟨hlen, p0, c0, he, hnc, hcm, hp0, _⟩ := hr
  cases he
  clear h1
  cases p with
  | none =>
    have h0 : n = 0 ∧ c = 0 := by have := hp0 rfl; omega
    obtain ⟨rfl, rfl⟩ := h0
    have hs0 : xs = [] := List.eq_nil_of_length_eq_zero (by simpa using hlen)
    subst hs0
    clear hp0
    have heq := Lib.run_eql_slice_nil (P := Try.prog) w TIs _ none 0 0 0 0 Try.underlying44
    go_enter Try.func61, Try.ntmps61
    go_wp2_with fail
    go_ret
    exact ⟨none, 0, rfl, World.ownsRow_nil _ _ _ _, Below.refl _ _⟩
  | some a =>
    clear hp0 hlen hnc hcm
    have heq := Lib.run_eql_slice_nil (P := Try.prog) w TIs _ (some a) n c 0 0 Try.underlying44
    go_enter Try.func61, Try.ntmps61
    go_wp2_with (at_builtin; refine wp_keep ?_)
    refine hid ?_
    refine wpList_append_rd rfl _ _ TIs rfl w.heap.size TI _ 1 8 Try.underlying44 infoTI rfl (by decide) _ 0 [] rfl (own_empty w TI 1 _ rfl w.heap.size (Nat.le_refl _)) _ n xs rfl (HR.out.new ((Below.refl _ _).alloc (Nat.le_refl _) _)) H1.out (by simp only [maxLen]; omega) (by omega) (by simp) ?_
    intro p2 c2 w2 ho2 hg2 _
    have hb : Below w.heap.size w w2 := ((Below.refl w.heap.size w).alloc (Nat.le_refl _) _).grown hg2 (by simp) (by intro k hk; cases hk; exact Nat.le_refl _)
    rw [Nat.zero_add] at ho2 ⊢
    rw [List.nil_append] at ho2
    have HO := hid ho2
    have HB := hid hb
    clear ho2 hb hg2
    go_wp2_with fail
    go_ret
    exact ⟨p2, c2, rfl, HO.out, HB.out⟩
end Go.Proofs.Ytdilkgcoecipjaa

namespace Go.Proofs.Ytdilkgcoecipjaa
open Go.RowKit
set_option linter.unusedVariables false

section
variable {P : Program} {ops : Array Oper} {Q : Exit → Act → World → Prop} {md : Region.Mode} {S : World → Prop}

def wpJ (P : Program) (md : Region.Mode) (ops : Array Oper) (Q : Exit → Act → World → Prop) (S : World → Prop) (brk : Nat → Bool) : Nat → Array Bool → Act → World → Prop
  | 0, listed, a, w => Region.ready md ops listed = [] ∧ Q .normal a w
  | fuel + 1, listed, a, w =>
    (Region.ready md ops listed = [] → Q .normal a w) ∧
    ∀ i ∈ Region.ready md ops listed, wpOp P ops Q i (fun a' w' => (brk i = false → S w → S w') ∧ wpJ P md ops Q S brk fuel (listed.setIfInBounds i true) a' w') a w

theorem wpJ_any {brk : Nat → Bool} : ∀ (fuel : Nat) (listed : Array Bool) (a : Act) (w : World), wpJ P md ops Q S brk fuel listed a w → wpAny P md ops Q fuel listed a w := by
  intro fuel
  induction fuel with
  | zero => intro listed a w h; exact h
  | succ fuel ih => intro listed a w h; exact ⟨h.1, fun i hi => wpOp_mono (fun a' w' hk => ih _ _ _ hk.2) (h.2 i hi)⟩

theorem wpJ_first {ln brk : Nat → Bool} (hbrk : brkB md ops ln brk = true) {i : Nat} {oi : Oper} {v : Value} (hi : ops[i]? = some oi) (hsel : ∀ (j : Nat) (o : Oper) cs b, ops[j]? = some o → o.op ≠ .select cs b)
    (hQ : ∀ c a w d u, Q (.panic c) (Act.put a d u) w → Q (.panic c) a w) :
    ∀ (fuel : Nat) (listed : Array Bool) (a : Act) (w : World), Closed md ops listed →
      (∀ j oj, ops[j]? = some oj → j ≠ i → listed.getD j true = false → (∀ e ∈ oj.after, Region.binds md e = true → e.on ≠ i) → oi.apart ops oj = true) →
      i ∈ Region.ready md ops listed → (ln i = true → S w) → Stable P ops (fun w => ln i = true → S w) oi v a →
      wpJ P md ops Q S brk fuel (listed.setIfInBounds i true) (a.put oi.dst v) w → wpJ P md ops Q S brk (fuel + 1) listed a w := by
  intro fuel
  induction fuel with
  | zero =>
    intro listed a w _ _ hr hS hy H
    refine ⟨fun h => (by rw [h] at hr; cases hr), fun j hj => ?_⟩
    by_cases hji : j = i
    · subst hji; exact hy.op hi hS ⟨fun _ h => h, H⟩
    · have := ready_mono hj hji
      rw [H.1] at this
      cases this
  | succ fuel ih =>
    intro listed a w hcl hfree hr hS hy H
    refine ⟨fun h => (by rw [h] at hr; cases hr), fun j hj => ?_⟩
    by_cases hji : j = i
    · subst hji; exact hy.op hi hS ⟨fun _ h => h, H⟩
    · have h1 := H.2 j (ready_mono hj hji)
      have hbj := fun hl => brkB_spec (st := ln) hbrk hcl hr hl hj
      obtain ⟨hjun, oj, hoj, hall⟩ := mem_ready.1 hj
      have hnot : ∀ e ∈ oj.after, Region.binds md e = true → e.on ≠ i := fun e he hb heq => by
        have h1 := hall e he hb
        have h0 := (mem_ready.1 hr).1
        rw [heq] at h1
        rcases Nat.lt_or_ge i listed.size with h' | h'
        · simp [h'] at h0 h1; rw [h0] at h1; cases h1
        · simp [Array.getElem?_eq_none h'] at h1
      have h2 := op_swap hoj (hfree j oj hoj hji hjun hnot) (fun cs b => hsel i oi cs b hi) (fun cs b => hsel j oj cs b hoj) hQ hy h1
      have hfree' : ∀ k ok, ops[k]? = some ok → k ≠ i → (listed.setIfInBounds j true).getD k true = false →
          (∀ e ∈ ok.after, Region.binds md e = true → e.on ≠ i) → oi.apart ops ok = true := fun k ok hk hki hun hno => by
        refine hfree k ok hk hki ?_ hno
        by_cases hjk : j = k
        · subst hjk; exact hjun
        · rw [getD_set_ne true hjk] at hun; exact hun
      refine wpOp_mono (fun a' w' h3 => ⟨h3.2.1, ih (listed.setIfInBounds j true) a' w' (hcl.set hj) hfree' (ready_mono hr (Ne.symm hji)) (fun hl => h3.2.1 (hbj hl) (hS hl)) h3.1 ?_⟩) h2
      rw [Array.setIfInBounds_comm _ _ hji]
      exact h3.2.2

def wpPlan2 (P : Program) (ops : Array Oper) (Q : Exit → Act → World → Prop) (S : World → Prop) (st ln brk : Nat → Bool) : List Nat → Act → World → Prop
  | [], a, w => Q .normal a w
  | j :: rest, a, w =>
    match ops[j]? with
    | none => False
    | some o => if st j then ∃ v, Stable P ops (fun w => ln j = true → S w) o v a ∧ wpPlan2 P ops Q S st ln brk rest (a.put o.dst v) w
      else effect P ops Q S j (!brk j || rest.any ln) (wpPlan2 P ops Q S st ln brk rest) a w

def planB2 (md : Region.Mode) (ops : Array Oper) (st ln brk : Nat → Bool) : List Nat → Array Bool → Bool
  | [], listed => Region.ready md ops listed == []
  | j :: rest, listed => (if st j then (Region.ready md ops listed).contains j && Region.free md ops listed j else Region.ready md ops listed == [j] && !ln j && (!brk j || !rest.any ln)) && planB2 md ops st ln brk rest (listed.setIfInBounds j true)

theorem effect_op2 {ln brk : Nat → Bool} {j : Nat} {rest : List Nat} {fuel : Nat} {listed : Array Bool} {a : Act} {w : World} {K0 : Act → World → Prop}
    (ih : ∀ a w, (rest.any ln = true → S w) → K0 a w → wpJ P md ops Q S brk fuel (listed.setIfInBounds j true) a w)
    (h : effect P ops Q S j (!brk j || rest.any ln) K0 a w) : wpOp P ops Q j (fun a' w' => (brk j = false → S w → S w') ∧ wpJ P md ops Q S brk fuel (listed.setIfInBounds j true) a' w') a w := by
  unfold effect at h
  unfold wpOp
  cases ho : ops[j]? with
  | none => simp only [ho] at h
  | some o =>
    simp only [ho] at h ⊢
    by_cases hw : Region.wanted o (yielded ops a.tmps) = true
    · rw [if_pos hw] at h ⊢
      exact h.imp (Oper.wp_mono (fun a' w' hk => ⟨fun hb _ => hk.1 (by simp [hb]), ih _ _ (fun hr => hk.1 (by simp [hr])) hk.2⟩)) id
    · rw [if_neg hw] at h ⊢
      exact ⟨fun hb _ => h.1 (by simp [hb]), ih _ _ (fun hr => h.1 (by simp [hr])) h.2⟩

theorem wpJ_plan (hsel : Region.noSelect ops = true) (hQ : ∀ c a w d u, Q (.panic c) (Act.put a d u) w → Q (.panic c) a w) (st ln brk : Nat → Bool) (hbrk : brkB md ops ln brk = true) :
    ∀ (l : List Nat) (listed : Array Bool) (a : Act) (w : World), Closed md ops listed → planB2 md ops st ln brk l listed = true → (l.any ln = true → S w) → wpPlan2 P ops Q S st ln brk l a w → wpJ P md ops Q S brk l.length listed a w := by
  intro l
  induction l with
  | nil => intro listed a w _ hp hS h; exact ⟨by simpa [planB2] using hp, h⟩
  | cons j rest ih =>
    intro listed a w hcl hp hS h
    simp only [planB2, Bool.and_eq_true] at hp
    obtain ⟨hp1, hp2⟩ := hp
    simp only [wpPlan2] at h
    cases ho : ops[j]? with
    | none => simp only [ho] at h
    | some o =>
      simp only [ho] at h
      by_cases hst : st j = true
      · rw [if_pos hst] at h hp1
        simp only [Bool.and_eq_true] at hp1
        obtain ⟨v, hy, h⟩ := h
        have hrd : j ∈ Region.ready md ops listed := by simpa using hp1.1
        exact wpJ_first hbrk ho (Region.noSelect_spec hsel) hQ _ listed a w hcl (Region.free_spec ho hp1.2) hrd (fun hl => hS (by simp [hl])) hy (ih _ _ _ (hcl.set hrd) hp2 (fun hr => hS (by simp only [List.any_cons, hr, Bool.or_true])) h)
      · rw [if_neg hst] at h hp1
        simp only [Bool.and_eq_true] at hp1
        have hr : Region.ready md ops listed = [j] := by simpa using hp1.1.1
        have hrd : j ∈ Region.ready md ops listed := by rw [hr]; simp
        refine ⟨fun h0 => (by rw [hr] at h0; cases h0), fun i hi => ?_⟩
        rw [hr] at hi
        obtain rfl : i = j := by simpa using hi
        exact effect_op2 (fun a w hs hk => ih _ a w (hcl.set hrd) hp2 hs hk) h

theorem wp_region_plan2 {id : Nat} {a : Act} {w : World} (S : World → Prop) (st ln brk : Nat → Bool) (l : List Nat) (hm : P.follows .mixedOrders = true) (hsel : Region.noSelect ops = true) (hlen : l.length = ops.size)
    (hb : brkB .any ops ln brk = true) (hp : planB2 .any ops st ln brk l (Array.replicate ops.size false) = true) (hS : S w.drew)
    (h : wpPlan2 P ops (Qn Q) S st ln brk l a w.drew) : (Code.region id ops true).wp P Q a w := by
  refine wp_region_any hm (wpAny_weak Qn.of _ _ _ _ (wpJ_any (S := S) (brk := brk) _ _ _ _ ?_))
  rw [← hlen]
  exact wpJ_plan hsel (fun _ _ _ _ _ h => h.elim) st ln brk hb l _ a w.drew (by rw [hlen]; exact Closed.none) (by rw [hlen]; exact hp) (fun _ => hS) h

theorem wpPlan2_val {st ln brk : Nat → Bool} {j : Nat} {rest : List Nat} {a : Act} {w : World} {o : Oper} (v : Value) (ho : ops[j]? = some o) (hst : st j = true) (hw : Region.wanted o (yielded ops a.tmps) = true)
    (hv : ∀ w', (ln j = true → S w') → (execOp a.eval o).run P w' = .ok (.value v) w') (h : ∀ K : Act → Prop, (∀ a', wpPlan2 P ops Q S st ln brk rest a' w → K a') → K (a.put o.dst v)) : wpPlan2 P ops Q S st ln brk (j :: rest) a w := by
  have h := h _ fun _ h => h
  simp only [wpPlan2, ho, hst, if_true]
  exact ⟨v, .inl ⟨hw, fun w' hS => .inl (hv w' hS)⟩, h⟩
theorem wpPlan2_list {st ln brk : Nat → Bool} {j : Nat} {rest : List Nat} {a : Act} {w : World} {o : Oper} (ho : ops[j]? = some o) (hst : st j = false) (hw : Region.wanted o (yielded ops a.tmps) = true)
    (h : ∀ K : Act → World → Prop, (∀ a' w', ((!brk j || rest.any ln) = true → S w') → wpPlan2 P ops Q S st ln brk rest a' w' → K a' w') →
      wpList P ops (fun e a' w' => match e with | .normal => K a' w' | e => Q e a' w') [o] a w) : wpPlan2 P ops Q S st ln brk (j :: rest) a w := by
  simp only [wpPlan2, ho, hst, Bool.false_eq_true, if_false]
  exact effect_list ho hw h
theorem wpPlan2_off {st ln brk : Nat → Bool} {j : Nat} {rest : List Nat} {a : Act} {w : World} {o : Oper} (ho : ops[j]? = some o) (hst : st j = true) (hw : Region.wanted o (yielded ops a.tmps) = false)
    (h : ∀ K : Act → Prop, (∀ a', wpPlan2 P ops Q S st ln brk rest a' w → K a') → K (a.put o.dst undef)) : wpPlan2 P ops Q S st ln brk (j :: rest) a w := by
  have h := h _ fun _ h => h
  simp only [wpPlan2, ho, hst, if_true]
  exact ⟨undef, .inr ⟨hw, rfl⟩, h⟩
theorem wpPlan2_nil {st ln brk : Nat → Bool} {a : Act} {w : World} (h : Q .normal a w) : wpPlan2 P ops Q S st ln brk [] a w := h
end
end Go.Proofs.Ytdilkgcoecipjaa

namespace Go.Proofs.Ytdilkgcoecipjaa
open Go.RowKit
set_option linter.unusedVariables false

section
variable {P : Program} {ops : Array Oper} {Q : Exit → Act → World → Prop} {md : Region.Mode} {S : World → Prop}

def wpPlan3 (P : Program) (ops : Array Oper) (Q : Exit → Act → World → Prop) (S : World → Prop) (st ln brk : Nat → Bool) : Plan → Act → World → Prop
  | .nil, a, w => Q .normal a w
  | .cons j rest, a, w =>
    match ops[j]? with
    | none => False
    | some o => if st j then ∃ v, Stable P ops (fun w => ln j = true → S w) o v a ∧ wpPlan3 P ops Q S st ln brk rest (a.put o.dst v) w
      else effect P ops Q S j (!brk j || rest.any ln) (wpPlan3 P ops Q S st ln brk rest) a w
  | .fork j k r1 r2, a, w => effect P ops Q S j (!brk j || r1.any ln) (wpPlan3 P ops Q S st ln brk r1) a w ∧ effect P ops Q S k (!brk k || r2.any ln) (wpPlan3 P ops Q S st ln brk r2) a w

def planB3 (md : Region.Mode) (ops : Array Oper) (st ln brk : Nat → Bool) : Plan → Array Bool → Bool
  | .nil, listed => Region.ready md ops listed == []
  | .cons j rest, listed => (if st j then (Region.ready md ops listed).contains j && Region.free md ops listed j else Region.ready md ops listed == [j] && !ln j && (!brk j || !rest.any ln)) && planB3 md ops st ln brk rest (listed.setIfInBounds j true)
  | .fork j k r1 r2, listed => Region.ready md ops listed == [j, k] && !ln j && !ln k && (!brk j || !r1.any ln) && (!brk k || !r2.any ln) && r1.depth == r2.depth &&
      planB3 md ops st ln brk r1 (listed.setIfInBounds j true) && planB3 md ops st ln brk r2 (listed.setIfInBounds k true)

theorem effect_op3 {ln brk : Nat → Bool} {j : Nat} {rest : Plan} {fuel : Nat} {listed : Array Bool} {a : Act} {w : World} {K0 : Act → World → Prop}
    (ih : ∀ a w, (rest.any ln = true → S w) → K0 a w → wpJ P md ops Q S brk fuel (listed.setIfInBounds j true) a w)
    (h : effect P ops Q S j (!brk j || rest.any ln) K0 a w) : wpOp P ops Q j (fun a' w' => (brk j = false → S w → S w') ∧ wpJ P md ops Q S brk fuel (listed.setIfInBounds j true) a' w') a w := by
  unfold effect at h
  unfold wpOp
  cases ho : ops[j]? with
  | none => simp only [ho] at h
  | some o =>
    simp only [ho] at h ⊢
    by_cases hw : Region.wanted o (yielded ops a.tmps) = true
    · rw [if_pos hw] at h ⊢
      exact h.imp (Oper.wp_mono (fun a' w' hk => ⟨fun hb _ => hk.1 (by simp [hb]), ih _ _ (fun hr => hk.1 (by simp [hr])) hk.2⟩)) id
    · rw [if_neg hw] at h ⊢
      exact ⟨fun hb _ => h.1 (by simp [hb]), ih _ _ (fun hr => h.1 (by simp [hr])) h.2⟩

theorem wpJ_plan3 (hsel : Region.noSelect ops = true) (hQ : ∀ c a w d u, Q (.panic c) (Act.put a d u) w → Q (.panic c) a w) (st ln brk : Nat → Bool) (hbrk : brkB md ops ln brk = true) :
    ∀ (l : Plan) (listed : Array Bool) (a : Act) (w : World), Closed md ops listed → planB3 md ops st ln brk l listed = true → (l.any ln = true → S w) → wpPlan3 P ops Q S st ln brk l a w → wpJ P md ops Q S brk l.depth listed a w := by
  intro l
  induction l with
  | nil => intro listed a w _ hp hS h; exact ⟨by simpa [planB3] using hp, h⟩
  | cons j rest ih =>
    intro listed a w hcl hp hS h
    simp only [planB3, Bool.and_eq_true] at hp
    obtain ⟨hp1, hp2⟩ := hp
    simp only [wpPlan3] at h
    cases ho : ops[j]? with
    | none => simp only [ho] at h
    | some o =>
      simp only [ho] at h
      by_cases hst : st j = true
      · rw [if_pos hst] at h hp1
        simp only [Bool.and_eq_true] at hp1
        obtain ⟨v, hy, h⟩ := h
        have hrd : j ∈ Region.ready md ops listed := by simpa using hp1.1
        exact wpJ_first hbrk ho (Region.noSelect_spec hsel) hQ _ listed a w hcl (Region.free_spec ho hp1.2) hrd (fun hl => hS (by simp [Plan.any, hl])) hy (ih _ _ _ (hcl.set hrd) hp2 (fun hr => hS (by simp only [Plan.any, hr, Bool.or_true])) h)
      · rw [if_neg hst] at h hp1
        simp only [Bool.and_eq_true] at hp1
        have hr : Region.ready md ops listed = [j] := by simpa using hp1.1.1
        have hrd : j ∈ Region.ready md ops listed := by rw [hr]; simp
        refine ⟨fun h0 => (by rw [hr] at h0; cases h0), fun i hi => ?_⟩
        rw [hr] at hi
        obtain rfl : i = j := by simpa using hi
        exact effect_op3 (fun a w hs hk => ih _ a w (hcl.set hrd) hp2 hs hk) h
  | fork j k r1 r2 ih1 ih2 =>
    intro listed a w hcl hp hS h
    simp only [planB3, Bool.and_eq_true] at hp
    obtain ⟨⟨⟨⟨⟨⟨⟨hp1, _⟩, _⟩, _⟩, _⟩, hd⟩, hq1⟩, hq2⟩ := hp
    have hr : Region.ready md ops listed = [j, k] := by simpa using hp1
    have hd : r1.depth = r2.depth := by simpa using hd
    have hj : j ∈ Region.ready md ops listed := by rw [hr]; simp
    have hk : k ∈ Region.ready md ops listed := by rw [hr]; simp
    refine ⟨fun h0 => (by rw [hr] at h0; cases h0), fun i hi => ?_⟩
    rw [hr] at hi
    rcases List.mem_cons.1 hi with rfl | hi
    · exact effect_op3 (fun a w hs hk => ih1 _ a w (hcl.set hj) hq1 hs hk) h.1
    · obtain rfl := List.mem_singleton.1 hi
      refine effect_op3 (fun a w hs hkk => ?_) h.2
      show wpJ P md ops Q S brk r1.depth _ a w
      rw [hd]
      exact ih2 _ a w (hcl.set hk) hq2 hs hkk

theorem wp_region_plan3 {id : Nat} {a : Act} {w : World} (S : World → Prop) (st ln brk : Nat → Bool) (l : Plan) (hm : P.follows .mixedOrders = true) (hsel : Region.noSelect ops = true) (hlen : l.depth = ops.size)
    (hb : brkB .any ops ln brk = true) (hp : planB3 .any ops st ln brk l (Array.replicate ops.size false) = true) (hS : S w.drew)
    (h : wpPlan3 P ops (Qn Q) S st ln brk l a w.drew) : (Code.region id ops true).wp P Q a w := by
  refine wp_region_any hm (wpAny_weak Qn.of _ _ _ _ (wpJ_any (S := S) (brk := brk) _ _ _ _ ?_))
  rw [← hlen]
  exact wpJ_plan3 hsel (fun _ _ _ _ _ h => h.elim) st ln brk hb l _ a w.drew (by rw [hlen]; exact Closed.none) (by rw [hlen]; exact hp) (fun _ => hS) h

theorem wpPlan3_val {st ln brk : Nat → Bool} {j : Nat} {rest : Plan} {a : Act} {w : World} {o : Oper} (v : Value) (ho : ops[j]? = some o) (hst : st j = true) (hw : Region.wanted o (yielded ops a.tmps) = true)
    (hv : ∀ w', (ln j = true → S w') → (execOp a.eval o).run P w' = .ok (.value v) w') (h : ∀ K : Act → Prop, (∀ a', wpPlan3 P ops Q S st ln brk rest a' w → K a') → K (a.put o.dst v)) : wpPlan3 P ops Q S st ln brk (.cons j rest) a w := by
  have h := h _ fun _ h => h
  simp only [wpPlan3, ho, hst, if_true]
  exact ⟨v, .inl ⟨hw, fun w' hS => .inl (hv w' hS)⟩, h⟩
theorem wpPlan3_list {st ln brk : Nat → Bool} {j : Nat} {rest : Plan} {a : Act} {w : World} {o : Oper} (ho : ops[j]? = some o) (hst : st j = false) (hw : Region.wanted o (yielded ops a.tmps) = true)
    (h : ∀ K : Act → World → Prop, (∀ a' w', ((!brk j || rest.any ln) = true → S w') → wpPlan3 P ops Q S st ln brk rest a' w' → K a' w') →
      wpList P ops (fun e a' w' => match e with | .normal => K a' w' | e => Q e a' w') [o] a w) : wpPlan3 P ops Q S st ln brk (.cons j rest) a w := by
  simp only [wpPlan3, ho, hst, Bool.false_eq_true, if_false]
  exact effect_list ho hw h
theorem wpPlan3_off {st ln brk : Nat → Bool} {j : Nat} {rest : Plan} {a : Act} {w : World} {o : Oper} (ho : ops[j]? = some o) (hst : st j = true) (hw : Region.wanted o (yielded ops a.tmps) = false)
    (h : ∀ K : Act → Prop, (∀ a', wpPlan3 P ops Q S st ln brk rest a' w → K a') → K (a.put o.dst undef)) : wpPlan3 P ops Q S st ln brk (.cons j rest) a w := by
  have h := h _ fun _ h => h
  simp only [wpPlan3, ho, hst, if_true]
  exact ⟨undef, .inr ⟨hw, rfl⟩, h⟩
theorem wpPlan3_nil {st ln brk : Nat → Bool} {a : Act} {w : World} (h : Q .normal a w) : wpPlan3 P ops Q S st ln brk .nil a w := h
end
end Go.Proofs.Ytdilkgcoecipjaa

namespace Go.Proofs.Ytdilkgcoecipjaa
open Go.RowKit
set_option linter.unusedVariables false

inductive PlanF where
  | nil : PlanF
  | cons (j : Nat) (rest : PlanF) : PlanF
  | fork (j k : Nat) (r1 r2 : PlanF) : PlanF
  | fork3 (i j k : Nat) (r1 r2 r3 : PlanF) : PlanF
def PlanF.depth : PlanF → Nat
  | .nil => 0
  | .cons _ r => r.depth + 1
  | .fork _ _ r _ => r.depth + 1
  | .fork3 _ _ _ r _ _ => r.depth + 1
def PlanF.any (st : Nat → Bool) : PlanF → Bool
  | .nil => false
  | .cons j r => st j || r.any st
  | .fork j k r1 r2 => st j || st k || r1.any st || r2.any st
  | .fork3 i j k r1 r2 r3 => st i || st j || st k || r1.any st || r2.any st || r3.any st

section
variable {P : Program} {ops : Array Oper} {Q : Exit → Act → World → Prop} {md : Region.Mode} {S : World → Prop}

def wpPlan4 (P : Program) (ops : Array Oper) (Q : Exit → Act → World → Prop) (S : World → Prop) (st ln brk : Nat → Bool) : PlanF → Act → World → Prop
  | .nil, a, w => Q .normal a w
  | .cons j rest, a, w =>
    match ops[j]? with
    | none => False
    | some o => if st j then ∃ v, Stable P ops (fun w => ln j = true → S w) o v a ∧ wpPlan4 P ops Q S st ln brk rest (a.put o.dst v) w
      else effect P ops Q S j (!brk j || rest.any ln) (wpPlan4 P ops Q S st ln brk rest) a w
  | .fork j k r1 r2, a, w => effect P ops Q S j (!brk j || r1.any ln) (wpPlan4 P ops Q S st ln brk r1) a w ∧ effect P ops Q S k (!brk k || r2.any ln) (wpPlan4 P ops Q S st ln brk r2) a w
  | .fork3 i j k r1 r2 r3, a, w => effect P ops Q S i (!brk i || r1.any ln) (wpPlan4 P ops Q S st ln brk r1) a w ∧ effect P ops Q S j (!brk j || r2.any ln) (wpPlan4 P ops Q S st ln brk r2) a w ∧ effect P ops Q S k (!brk k || r3.any ln) (wpPlan4 P ops Q S st ln brk r3) a w

def planB4 (md : Region.Mode) (ops : Array Oper) (st ln brk : Nat → Bool) : PlanF → Array Bool → Bool
  | .nil, listed => Region.ready md ops listed == []
  | .cons j rest, listed => (if st j then (Region.ready md ops listed).contains j && Region.free md ops listed j else Region.ready md ops listed == [j] && !ln j && (!brk j || !rest.any ln)) && planB4 md ops st ln brk rest (listed.setIfInBounds j true)
  | .fork j k r1 r2, listed => Region.ready md ops listed == [j, k] && !ln j && !ln k && (!brk j || !r1.any ln) && (!brk k || !r2.any ln) && r1.depth == r2.depth &&
      planB4 md ops st ln brk r1 (listed.setIfInBounds j true) && planB4 md ops st ln brk r2 (listed.setIfInBounds k true)
  | .fork3 i j k r1 r2 r3, listed => Region.ready md ops listed == [i, j, k] && !ln i && !ln j && !ln k && (!brk i || !r1.any ln) && (!brk j || !r2.any ln) && (!brk k || !r3.any ln) && r1.depth == r2.depth && r1.depth == r3.depth &&
      planB4 md ops st ln brk r1 (listed.setIfInBounds i true) && planB4 md ops st ln brk r2 (listed.setIfInBounds j true) && planB4 md ops st ln brk r3 (listed.setIfInBounds k true)

theorem effect_op4 {ln brk : Nat → Bool} {j : Nat} {rest : PlanF} {fuel : Nat} {listed : Array Bool} {a : Act} {w : World} {K0 : Act → World → Prop}
    (ih : ∀ a w, (rest.any ln = true → S w) → K0 a w → wpJ P md ops Q S brk fuel (listed.setIfInBounds j true) a w)
    (h : effect P ops Q S j (!brk j || rest.any ln) K0 a w) : wpOp P ops Q j (fun a' w' => (brk j = false → S w → S w') ∧ wpJ P md ops Q S brk fuel (listed.setIfInBounds j true) a' w') a w := by
  unfold effect at h
  unfold wpOp
  cases ho : ops[j]? with
  | none => simp only [ho] at h
  | some o =>
    simp only [ho] at h ⊢
    by_cases hw : Region.wanted o (yielded ops a.tmps) = true
    · rw [if_pos hw] at h ⊢
      exact h.imp (Oper.wp_mono (fun a' w' hk => ⟨fun hb _ => hk.1 (by simp [hb]), ih _ _ (fun hr => hk.1 (by simp [hr])) hk.2⟩)) id
    · rw [if_neg hw] at h ⊢
      exact ⟨fun hb _ => h.1 (by simp [hb]), ih _ _ (fun hr => h.1 (by simp [hr])) h.2⟩

theorem wpJ_plan4 (hsel : Region.noSelect ops = true) (hQ : ∀ c a w d u, Q (.panic c) (Act.put a d u) w → Q (.panic c) a w) (st ln brk : Nat → Bool) (hbrk : brkB md ops ln brk = true) :
    ∀ (l : PlanF) (listed : Array Bool) (a : Act) (w : World), Closed md ops listed → planB4 md ops st ln brk l listed = true → (l.any ln = true → S w) → wpPlan4 P ops Q S st ln brk l a w → wpJ P md ops Q S brk l.depth listed a w := by
  intro l
  induction l with
  | nil => intro listed a w _ hp hS h; exact ⟨by simpa [planB4] using hp, h⟩
  | cons j rest ih =>
    intro listed a w hcl hp hS h
    simp only [planB4, Bool.and_eq_true] at hp
    obtain ⟨hp1, hp2⟩ := hp
    simp only [wpPlan4] at h
    cases ho : ops[j]? with
    | none => simp only [ho] at h
    | some o =>
      simp only [ho] at h
      by_cases hst : st j = true
      · rw [if_pos hst] at h hp1
        simp only [Bool.and_eq_true] at hp1
        obtain ⟨v, hy, h⟩ := h
        have hrd : j ∈ Region.ready md ops listed := by simpa using hp1.1
        exact wpJ_first hbrk ho (Region.noSelect_spec hsel) hQ _ listed a w hcl (Region.free_spec ho hp1.2) hrd (fun hl => hS (by simp [PlanF.any, hl])) hy (ih _ _ _ (hcl.set hrd) hp2 (fun hr => hS (by simp only [PlanF.any, hr, Bool.or_true])) h)
      · rw [if_neg hst] at h hp1
        simp only [Bool.and_eq_true] at hp1
        have hr : Region.ready md ops listed = [j] := by simpa using hp1.1.1
        have hrd : j ∈ Region.ready md ops listed := by rw [hr]; simp
        refine ⟨fun h0 => (by rw [hr] at h0; cases h0), fun i hi => ?_⟩
        rw [hr] at hi
        obtain rfl : i = j := by simpa using hi
        exact effect_op4 (fun a w hs hk => ih _ a w (hcl.set hrd) hp2 hs hk) h
  | fork j k r1 r2 ih1 ih2 =>
    intro listed a w hcl hp hS h
    simp only [planB4, Bool.and_eq_true] at hp
    obtain ⟨⟨⟨⟨⟨⟨⟨hp1, _⟩, _⟩, _⟩, _⟩, hd⟩, hq1⟩, hq2⟩ := hp
    have hr : Region.ready md ops listed = [j, k] := by simpa using hp1
    have hd : r1.depth = r2.depth := by simpa using hd
    have hj : j ∈ Region.ready md ops listed := by rw [hr]; simp
    have hk : k ∈ Region.ready md ops listed := by rw [hr]; simp
    refine ⟨fun h0 => (by rw [hr] at h0; cases h0), fun i hi => ?_⟩
    rw [hr] at hi
    rcases List.mem_cons.1 hi with rfl | hi
    · exact effect_op4 (fun a w hs hk => ih1 _ a w (hcl.set hj) hq1 hs hk) h.1
    · obtain rfl := List.mem_singleton.1 hi
      refine effect_op4 (fun a w hs hkk => ?_) h.2
      show wpJ P md ops Q S brk r1.depth _ a w
      rw [hd]
      exact ih2 _ a w (hcl.set hk) hq2 hs hkk
  | fork3 i j k r1 r2 r3 ih1 ih2 ih3 =>
    intro listed a w hcl hp hS h
    simp only [planB4, Bool.and_eq_true] at hp
    obtain ⟨⟨⟨⟨⟨⟨⟨⟨⟨⟨⟨hp1, _⟩, _⟩, _⟩, _⟩, _⟩, _⟩, hd⟩, hd3⟩, hq1⟩, hq2⟩, hq3⟩ := hp
    have hr : Region.ready md ops listed = [i, j, k] := by simpa using hp1
    have hd : r1.depth = r2.depth := by simpa using hd
    have hd3 : r1.depth = r3.depth := by simpa using hd3
    have hi : i ∈ Region.ready md ops listed := by rw [hr]; simp
    have hj : j ∈ Region.ready md ops listed := by rw [hr]; simp
    have hk : k ∈ Region.ready md ops listed := by rw [hr]; simp
    refine ⟨fun h0 => (by rw [hr] at h0; cases h0), fun x hx => ?_⟩
    rw [hr] at hx
    rcases List.mem_cons.1 hx with rfl | hx
    · exact effect_op4 (fun a w hs hk => ih1 _ a w (hcl.set hi) hq1 hs hk) h.1
    · rcases List.mem_cons.1 hx with rfl | hx
      · refine effect_op4 (fun a w hs hkk => ?_) h.2.1
        show wpJ P md ops Q S brk r1.depth _ a w
        rw [hd]
        exact ih2 _ a w (hcl.set hj) hq2 hs hkk
      · obtain rfl := List.mem_singleton.1 hx
        refine effect_op4 (fun a w hs hkk => ?_) h.2.2
        show wpJ P md ops Q S brk r1.depth _ a w
        rw [hd3]
        exact ih3 _ a w (hcl.set hk) hq3 hs hkk

theorem wp_region_plan4 {id : Nat} {a : Act} {w : World} (S : World → Prop) (st ln brk : Nat → Bool) (l : PlanF) (hm : P.follows .mixedOrders = true) (hsel : Region.noSelect ops = true) (hlen : l.depth = ops.size)
    (hb : brkB .any ops ln brk = true) (hp : planB4 .any ops st ln brk l (Array.replicate ops.size false) = true) (hS : S w.drew)
    (h : wpPlan4 P ops (Qn Q) S st ln brk l a w.drew) : (Code.region id ops true).wp P Q a w := by
  refine wp_region_any hm (wpAny_weak Qn.of _ _ _ _ (wpJ_any (S := S) (brk := brk) _ _ _ _ ?_))
  rw [← hlen]
  exact wpJ_plan4 hsel (fun _ _ _ _ _ h => h.elim) st ln brk hb l _ a w.drew (by rw [hlen]; exact Closed.none) (by rw [hlen]; exact hp) (fun _ => hS) h

theorem wpPlan4_val {st ln brk : Nat → Bool} {j : Nat} {rest : PlanF} {a : Act} {w : World} {o : Oper} (v : Value) (ho : ops[j]? = some o) (hst : st j = true) (hw : Region.wanted o (yielded ops a.tmps) = true)
    (hv : ∀ w', (ln j = true → S w') → (execOp a.eval o).run P w' = .ok (.value v) w') (h : ∀ K : Act → Prop, (∀ a', wpPlan4 P ops Q S st ln brk rest a' w → K a') → K (a.put o.dst v)) : wpPlan4 P ops Q S st ln brk (.cons j rest) a w := by
  have h := h _ fun _ h => h
  simp only [wpPlan4, ho, hst, if_true]
  exact ⟨v, .inl ⟨hw, fun w' hS => .inl (hv w' hS)⟩, h⟩
theorem wpPlan4_list {st ln brk : Nat → Bool} {j : Nat} {rest : PlanF} {a : Act} {w : World} {o : Oper} (ho : ops[j]? = some o) (hst : st j = false) (hw : Region.wanted o (yielded ops a.tmps) = true)
    (h : ∀ K : Act → World → Prop, (∀ a' w', ((!brk j || rest.any ln) = true → S w') → wpPlan4 P ops Q S st ln brk rest a' w' → K a' w') →
      wpList P ops (fun e a' w' => match e with | .normal => K a' w' | e => Q e a' w') [o] a w) : wpPlan4 P ops Q S st ln brk (.cons j rest) a w := by
  simp only [wpPlan4, ho, hst, Bool.false_eq_true, if_false]
  exact effect_list ho hw h
theorem wpPlan4_off {st ln brk : Nat → Bool} {j : Nat} {rest : PlanF} {a : Act} {w : World} {o : Oper} (ho : ops[j]? = some o) (hst : st j = true) (hw : Region.wanted o (yielded ops a.tmps) = false)
    (h : ∀ K : Act → Prop, (∀ a', wpPlan4 P ops Q S st ln brk rest a' w → K a') → K (a.put o.dst undef)) : wpPlan4 P ops Q S st ln brk (.cons j rest) a w := by
  have h := h _ fun _ h => h
  simp only [wpPlan4, ho, hst, if_true]
  exact ⟨undef, .inr ⟨hw, rfl⟩, h⟩
theorem wpPlan4_nil {st ln brk : Nat → Bool} {a : Act} {w : World} (h : Q .normal a w) : wpPlan4 P ops Q S st ln brk .nil a w := h
end
end Go.Proofs.Ytdilkgcoecipjaa
