/- btree: where a key stands among a node's. -/
import Derived.Test.YtdilkgcoecipjaaBtS
namespace Go.Proofs.Ytdilkgcoecipjaa
open Go.RowKit
set_option linter.unusedVariables false

theorem isNaN_any (a : Tx) (w : World) : Calls Try.prog 97 #[.string (B a)] w fun e w' => e = .returned (.bool false) ∧ w' = w := by
  go_enter Try.func97, Try.ntmps97
  go_wp2_with fail
  go_ret
  exact ⟨rfl, rfl⟩
theorem isNaN2_any (a : Tx) (w : World) : Calls Try.prog 92 #[.string (B a)] w fun e w' => e = .returned (.bool false) ∧ w' = w := by
  go_enter Try.func92, Try.ntmps92
  go_wp2_with fail
  go_ret
  exact ⟨rfl, rfl⟩
theorem less_any (a b : Tx) (w : World) : Calls Try.prog 91 #[.string (B a), .string (B b)] w fun e w' => e = .returned (.bool (ltB a b)) ∧ w' = w := by
  go_enter Try.func91, Try.ntmps91
  go_wp2_with fail
  refine (isNaN_any a w).mono ?_; rintro e1 w1 ⟨rfl, hw⟩
  subst hw
  cases h : ltB a b
  all_goals
    go_wp2_with fail
    go_ret
    exact ⟨by rw [h]; rfl, rfl⟩

set_option maxRecDepth 100000 in
set_option maxHeartbeats 2000000 in
theorem bs_any (w : World) (p : Option Addr) (n c : Nat) (l : List Tx) (key : Tx) (hr : Rd w 1 (.slice p n c) n (tv l)) (hn : l.length = n) (hs : l.Pairwise (fun a b => ltB a b = true)) (hl : n ≤ 100000) :
    Calls Try.prog 85 #[.slice p n c, .string (B key)] w fun e w' => e = .returned (.tuple #[.int .i64 (rk l key : Int), .bool (isAt l key)]) ∧ w' = w := by
  have HR := hid hr
  have HS := hid hs
  have HN := hid hn
  clear hr hs hn
  go_enter Try.func85, Try.ntmps85
  go_wp2_with fail
  go_loopw [7, 8] (fun vi vj wr => ∃ (i j : Nat), vi = .int .i64 i ∧ vj = .int .i64 j ∧ i ≤ j ∧ j ≤ n ∧ Hid (∀ x (hx : x < l.length), x < i → ltB l[x] key = true) ∧ Hid (∀ x (hx : x < l.length), j ≤ x → ltB l[x] key = false) ∧ wr = w) (fun vi vj _ => (intOf vj).toNat - (intOf vi).toNat)
  case atStart => exact ⟨0, n, rfl, rfl, Nat.zero_le _, Nat.le_refl _, hid (fun x _ h => by omega), hid (fun x h1 h2 => by have := HN.out; omega), rfl⟩
  case round =>
    obtain ⟨i, j, rfl, rfl, hij, hjn, H1, H2, rfl⟩ := hrel
    by_cases hlt : i < j
    · have hlt2 : (i : Int) < (j : Int) := by omega
      obtain ⟨h, hh⟩ : ∃ h, (i + j) / 2 = h := ⟨_, rfl⟩
      have hhn : h < l.length := by rw [HN.out]; omega
      have hwh : IntKind.i64.wrap (((i : Int) + (j : Int)) / 2) = (h : Int) := by rw [IntWalk.i64_in _ ⟨by omega, by omega⟩]; omega
      obtain ⟨b, o, rfl, hcc⟩ := HR.out.addr (by omega)
      have hc0 : wr.cell? ⟨b, o + h, none⟩ = some (.string (B l[h])) := hcc h _ (tv_get (List.getElem?_eq_getElem hhn))
      obtain ⟨k, hk⟩ : ∃ k, l[h] = k := ⟨_, rfl⟩
      rw [hk] at hc0
      have HK := hid hk
      clear hcc hk
      go_wp2_with fail
      refine (less_any k key wr).mono ?_; rintro e1 wx ⟨rfl, hw⟩
      subst hw
      cases hkk : ltB k key
      · go_wp2_with fail
        have hne : ¬ h = j := by omega
        case roundEnd => exact ⟨⟨i, h, rfl, rfl, by omega, by omega, H1, hid (fun x hx hhx => by
          cases hc : ltB l[x] key with
          | false => rfl
          | true =>
            have h9 := HK.out
            rcases Nat.lt_or_ge h x with h8 | h8
            · have := List.pairwise_iff_getElem.1 HS.out h x hhn hx h8
              rw [h9] at this
              have := ltB_trans this hc
              rw [hkk] at this; cases this
            · have e : x = h := by omega
              subst e
              rw [h9, hkk] at hc; cases hc), by first | exact rfl | exact trivial⟩, by simp [intOf]; omega⟩
      · go_wp2_with fail
        case roundEnd => exact ⟨⟨h + 1, j, by first | rfl | (congr 1; omega) | (congr 1), rfl, by omega, hjn, hid (fun x hx hhx => by
          have h9 := HK.out
          rcases Nat.lt_or_ge x h with h8 | h8
          · have := List.pairwise_iff_getElem.1 HS.out x h hx hhn h8
            rw [h9] at this
            exact ltB_trans this hkk
          · have e : x = h := by omega
            subst e
            rw [h9]; exact hkk), H2, by first | exact rfl | exact trivial⟩, by simp [intOf]; omega⟩
    · have hlt2 : ¬ (i : Int) < (j : Int) := by omega
      have HRK := hid (show rk l key = i from rk_of (by rw [HN.out]; omega) (fun x hx h => H1.out x hx h) (fun hx => H2.out i hx (by omega)))
      by_cases hin : i < n
      · have hin2 : (i : Int) < (n : Int) := by omega
        have hhn : i < l.length := by rw [HN.out]; exact hin
        obtain ⟨b, o, rfl, hcc⟩ := HR.out.addr (by omega)
        have hc0 : wr.cell? ⟨b, o + i, none⟩ = some (.string (B l[i])) := hcc i _ (tv_get (List.getElem?_eq_getElem hhn))
        obtain ⟨k, hk⟩ : ∃ k, l[i] = k := ⟨_, rfl⟩
        rw [hk] at hc0
        have HIS := hid (show isAt l key = (k == key) by
          unfold isAt
          rw [HRK.out, List.getElem?_eq_getElem hhn, hk]
          rfl)
        clear hcc hk
        cases hkk : (k == key)
        · go_wp2_with fail
          refine (isNaN2_any k wr).mono ?_; rintro e1 wx ⟨rfl, hw⟩
          subst hw
          go_wp2_with fail
          go_ret2
          exact ⟨by rw [HRK.out, HIS.out, hkk]; rfl, rfl⟩
        · go_wp2_with fail
          go_ret2
          exact ⟨by rw [HRK.out, HIS.out, hkk]; rfl, rfl⟩
      · have hin2 : ¬ (i : Int) < (n : Int) := by omega
        have HIS := hid (show isAt l key = false by
          unfold isAt
          rw [HRK.out, List.getElem?_eq_none (by rw [HN.out]; omega)]
          rfl)
        go_wp2_with fail
        go_ret2
        exact ⟨by rw [HRK.out, HIS.out]; rfl, rfl⟩

/-- a node's place; which kid has a key -/
theorem place_any (w : World) (n : Nd) (lf : Bool) (pk : Option Addr) (nk ck : Nat) (pv : Option Addr) (nv cv : Nat) (pd : Option Addr) (nd cd : Nat) (key : Tx) (hr : Rd w 1 (.slice pk nk ck) nk (tv n.keys)) (hn : n.keys.length = nk) (hs : n.keys.Pairwise (fun a b => ltB a b = true)) (hl : nk ≤ 100000) :
    Calls Try.prog 74 #[ndV lf pk nk ck pv nv cv pd nd cd, .string (B key)] w fun e w' => e = .returned (.tuple #[.int .i64 (rk n.keys key : Int), .bool (isAt n.keys key)]) ∧ Below w.heap.size w w' := by
  have HR := hid hr
  have HN := hid hn
  have HS := hid hs
  clear hr hn hs
  unfold ndV
  go_enter Try.func74, Try.ntmps74
  go_wp2_with fail
  have hb := (Below.refl w.heap.size w).alloc (Nat.le_refl _) (.cells #[.bool lf, .slice pk nk ck, .slice pv nv cv, .slice pd nd cd] TN)
  refine (bs_any _ pk nk ck n.keys key (HR.out.new hb) HN.out HS.out hl).mono ?_
  rintro e1 w1 ⟨rfl, hw⟩
  subst hw
  go_wp2_with fail
  go_ret2
  exact ⟨rfl, hb⟩
theorem down_any (w : World) (n : Nd) (lf : Bool) (pk : Option Addr) (nk ck : Nat) (pv : Option Addr) (nv cv : Nat) (pd : Option Addr) (nd cd : Nat) (key : Tx) (hr : Rd w 1 (.slice pk nk ck) nk (tv n.keys)) (hn : n.keys.length = nk) (hs : n.keys.Pairwise (fun a b => ltB a b = true)) (hl : nk ≤ 100000) :
    Calls Try.prog 67 #[ndV lf pk nk ck pv nv cv pd nd cd, .string (B key)] w fun e w' => e = .returned (.int .i64 (downP n.keys key : Int)) ∧ Below w.heap.size w w' := by
  have HR := hid hr
  have HN := hid hn
  have HS := hid hs
  have hrk := rk_le n.keys key
  rw [hn] at hrk
  clear hr hn hs
  go_enter Try.func67, Try.ntmps67
  unfold ndV
  go_wp2_with fail
  have hb := (Below.refl w.heap.size w).alloc (Nat.le_refl _) (.cells #[.bool lf, .slice pk nk ck, .slice pv nv cv, .slice pd nd cd] TN)
  refine (place_any _ n lf pk nk ck pv nv cv pd nd cd key (HR.out.new hb) HN.out HS.out hl).mono ?_
  rintro e1 w1 ⟨rfl, hb1⟩
  have HB := hid (hb.trans (hb1.mono (by simp)))
  clear hb hb1
  cases hi : isAt n.keys key
  all_goals
    have HD := hid (show downP n.keys key = _ by unfold downP; rw [hi])
    go_wp2_with fail
    go_ret
    exact ⟨by rw [HD.out]; first | done | rfl, HB.out⟩
end Go.Proofs.Ytdilkgcoecipjaa
