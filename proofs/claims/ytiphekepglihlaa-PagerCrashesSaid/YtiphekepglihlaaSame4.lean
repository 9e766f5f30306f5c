/- triadlaw4: Do, Same, Few. -/
import Derived.Test.YtiphekepglihlaaDoF
namespace Go.Proofs.Ytiphekepglihlaa
open Go.RowKit Go.Maps
set_option linter.unusedVariables false

/-- what an act makes of pages -/
def actP (n : Nat) (m at_ num : Int) (b : List UInt8) (S T : AS) (op : Bool) : AS × AS × Bool :=
  if m = 0 then (S, T, true) else if m ≤ 3 then (S, (newO n op T).2.2, op) else if m ≤ 6 then (S, (putO op T at_ b).2, op) else if m ≤ 8 then (S, (dropO op T at_).2, op)
  else if m = 9 then (S, (rootO op T num).2, op) else if m ≤ 12 then (T, T, false) else (S, S, false)

theorem do_any {w : World} {p d x n : Nat} {F G : Nat → Prop} {s : DS} {S T : AS} {op : Bool} {N : Nat} {S2 T2 : AS} {op2 : Bool} {M : Nat} (h : Duo w p d x n F G s S T op N S2 T2 op2 M) (hn : 403 ≤ n ∧ n ≤ 3000) (hN : N ≤ 398) (hM : M ≤ 900000)
    (kind num : Int) (pb : Option Addr) (cb : Nat) (l : List UInt8) (hb : Bs w (.slice pb l.length cb) l) (hl : l.length ≤ 600) (hbo : 0 < l.length → ∀ g, Value.ownBlock (.slice pb l.length cb) = some g → ¬ (F g ∨ G g)) (hw : (Lit.int .i64 num).wf = true) (at_ : Int) (hat : at_ = num % ((n : Int) - 401 + 2) - 1)
    (hcom : 10 ≤ kind % 14 → kind % 14 ≤ 12 → (op = false → T = S) ∧ s.ops + 3000 ≤ 1000000 ∧ s.stop < 1) :
    Calls Try.prog 31 #[.agg #[.int .i64 kind, .int .i64 num, .slice pb l.length cb], .pointer (some ⟨p, 0, none⟩), .pointer (some ⟨x, 0, none⟩)] w fun e w' => ∃ r s', e = .returned (.bool r) ∧ (T2 = T → op2 = op → r = true) ∧
      DuoTo w p d x n F G s' (actP n (kind % 14) at_ num l S T op).1 (actP n (kind % 14) at_ num l S T op).2.1 (actP n (kind % 14) at_ num l S T op).2.2 (N + 1) (actP n (kind % 14) at_ num l S2 T2 op2).1 (actP n (kind % 14) at_ num l S2 T2 op2).2.1 (actP n (kind % 14) at_ num l S2 T2 op2).2.2 (M + 6000) w' ∧
      s'.stop = s.stop ∧ s'.ops ≤ s.ops + 2010 ∧ ((kind % 14 < 10 ∨ 12 < kind % 14) → s' = s) := by
  have h0 : 0 ≤ kind % 14 := Int.emod_nonneg _ (by omega)
  have h1 : kind % 14 < 14 := Int.emod_lt_of_pos _ (by omega)
  unfold actP
  rcases (show kind % 14 = 0 ∨ (kind % 14 = 1 ∨ kind % 14 = 2 ∨ kind % 14 = 3) ∨ (kind % 14 = 4 ∨ kind % 14 = 5 ∨ kind % 14 = 6) ∨ (kind % 14 = 7 ∨ kind % 14 = 8) ∨ kind % 14 = 9 ∨ (kind % 14 = 10 ∨ kind % 14 = 11 ∨ kind % 14 = 12) ∨ kind % 14 = 13 by omega) with hm | hm | hm | hm | hm | hm | hm
  · simp only [if_pos hm]
    refine (do_begin h hn hN hM kind num pb cb l hb hl hbo hw at_ hat hm).mono ?_
    rintro e w' ⟨r, rfl, hr, hd⟩
    exact ⟨r, s, rfl, hr, hd, rfl, by omega, fun _ => rfl⟩
  · simp only [if_neg (show ¬ kind % 14 = 0 by omega), if_pos (show kind % 14 ≤ 3 by omega)]
    refine (do_new h hn hN hM kind num pb cb l hb hl hbo hw at_ hat hm).mono ?_
    rintro e w' ⟨r, rfl, hr, hd⟩
    exact ⟨r, s, rfl, hr, hd, rfl, by omega, fun _ => rfl⟩
  · simp only [if_neg (show ¬ kind % 14 = 0 by omega), if_neg (show ¬ kind % 14 ≤ 3 by omega), if_pos (show kind % 14 ≤ 6 by omega)]
    refine (do_put h hn hN hM kind num pb cb l hb hl hbo hw at_ hat hm).mono ?_
    rintro e w' ⟨r, rfl, hr, hd⟩
    exact ⟨r, s, rfl, hr, hd, rfl, by omega, fun _ => rfl⟩
  · simp only [if_neg (show ¬ kind % 14 = 0 by omega), if_neg (show ¬ kind % 14 ≤ 3 by omega), if_neg (show ¬ kind % 14 ≤ 6 by omega), if_pos (show kind % 14 ≤ 8 by omega)]
    refine (do_drop h hn hN hM kind num pb cb l hb hl hbo hw at_ hat hm).mono ?_
    rintro e w' ⟨r, rfl, hr, hd⟩
    exact ⟨r, s, rfl, hr, hd, rfl, by omega, fun _ => rfl⟩
  · simp only [if_neg (show ¬ kind % 14 = 0 by omega), if_neg (show ¬ kind % 14 ≤ 3 by omega), if_neg (show ¬ kind % 14 ≤ 6 by omega), if_neg (show ¬ kind % 14 ≤ 8 by omega), if_pos hm]
    refine (do_root h hn hN hM kind num pb cb l hb hl hbo hw at_ hat hm).mono ?_
    rintro e w' ⟨r, rfl, hr, hd⟩
    exact ⟨r, s, rfl, hr, hd, rfl, by omega, fun _ => rfl⟩
  · simp only [if_neg (show ¬ kind % 14 = 0 by omega), if_neg (show ¬ kind % 14 ≤ 3 by omega), if_neg (show ¬ kind % 14 ≤ 6 by omega), if_neg (show ¬ kind % 14 ≤ 8 by omega), if_neg (show ¬ kind % 14 = 9 by omega), if_pos (show kind % 14 ≤ 12 by omega)]
    obtain ⟨c1, c2, c3⟩ := hcom (by omega) (by omega)
    refine (do_commit h hn hN hM kind num pb cb l hb hl hbo hw at_ hat c1 c2 c3 hm).mono ?_
    rintro e w' ⟨r, s', rfl, hr, hd, h3, h4⟩
    exact ⟨r, s', rfl, hr, hd, h3, h4, fun h => by omega⟩
  · simp only [if_neg (show ¬ kind % 14 = 0 by omega), if_neg (show ¬ kind % 14 ≤ 3 by omega), if_neg (show ¬ kind % 14 ≤ 6 by omega), if_neg (show ¬ kind % 14 ≤ 8 by omega), if_neg (show ¬ kind % 14 = 9 by omega), if_neg (show ¬ kind % 14 ≤ 12 by omega)]
    refine (do_abort h hn hN hM kind num pb cb l hb hl hbo hw at_ hat hm).mono ?_
    rintro e w' ⟨r, rfl, hr, hd⟩
    exact ⟨r, s, rfl, hr, hd, rfl, by omega, fun _ => rfl⟩

set_option maxRecDepth 100000 in
set_option maxHeartbeats 4000000 in
/-- two that have the same pages -/
theorem same_any {w : World} {p d x n : Nat} {F G : Nat → Prop} {s : DS} {S T : AS} {op : Bool} {N : Nat} {S2 : AS} {op2 : Bool} {M : Nat} (h : Duo w p d x n F G s S T op N S2 T op2 M) (hn : 403 ≤ n ∧ n ≤ 3000) :
    Calls Try.prog 32 #[.pointer (some ⟨p, 0, none⟩), .pointer (some ⟨x, 0, none⟩)] w fun e w' => e = .returned (.bool true) ∧ Below w.heap.size w w' := by
  have H := hid h
  clear h
  go_enter Try.func32, Try.ntmps32
  go_wp2_with fail
  refine H.out.pg.root.mono ?_
  rintro e1 wx ⟨rfl, hw⟩
  subst hw
  go_wp2_with fail
  refine H.out.rf.seen.root.mono ?_
  rintro e2 w2 ⟨rfl, hb2⟩
  have B2 := hid hb2
  have H2 := hid (H.out.new' hb2)
  clear hb2
  go_wp2_with fail
  refine H2.out.pg.free.mono ?_
  rintro e3 wy ⟨rfl, hw⟩
  subst hw
  go_wp2_with fail
  refine H2.out.rf.seen.free.mono ?_
  rintro e4 w4 ⟨rfl, hb4⟩
  have B4 := hid (B2.out.trans (hb4.mono B2.out.size))
  clear hb4
  go_wp2_with fail
  go_loopw [5] (fun i wr => ∃ j : Nat, j ≤ n - 399 ∧ i = .int .i64 ((j : Int) - 1) ∧ Below wx.heap.size wx wr) (fun i _ => (n + 2) - (Go.RowKit.intOf i + 1).toNat)
  case atStart => exact ⟨0, Nat.zero_le _, rfl, B4.out⟩
  case round =>
    obtain ⟨j, hj, rfl, hb⟩ := hrel
    have BR := hid hb
    have HR := hid (H.out.new' (hb.mono (Nat.le_refl _)))
    have hpx := HR.out.rf.pages
    have hwj : IntKind.i64.wrap ((j : Int) - 1 + 1) = (j : Int) - 1 + 1 := i64_small (by omega) (by omega)
    have hkw : (Lit.int .i64 ((j : Int) - 1)).wf = true := by simp only [Lit.wf, IntKind.min, IntKind.max, IntKind.signed, IntKind.bits]; simp; omega
    clear hb
    by_cases hlt : (j : Int) - 1 ≤ (n : Int) - 401
    · go_wp2_with fail
      refine (HR.out.pg.get ((j : Int) - 1)).mono ?_
      rintro e5 w5 ⟨q, m, c, rfl, hm, hbs, hbe, _⟩
      have hm' : m = (getA T ((j : Int) - 1)).1.length := hm
      subst hm'
      have BS := hid hbs
      have H5 := hid (HR.out.new' hbe)
      have B5 := hid (BR.out.trans (hbe.mono BR.out.size))
      clear hm hbs hbe
      go_wp2_with fail
      refine (H5.out.rf.seen.get ((j : Int) - 1) hkw).mono ?_
      rintro e6 w6 ⟨rfl, hb6⟩
      have B6 := hid (B5.out.trans (hb6.mono B5.out.size))
      have BS6 := hid (BS.out.new hb6)
      clear hb6 hpx
      generalize hg : getA T ((j : Int) - 1) = g at *
      obtain ⟨gl, ge⟩ := g
      clear hg
      go_wp2_with (refine wpList_bytes_str rfl 41 9 _ rfl 5 Try.underlying41 Try.underlying5 Try.underlying9 _ gl rfl BS6.out ?_)
      go_roundw
      case rel => exact ⟨j + 1, by omega, by push_cast; congr 1; omega, B6.out⟩
      case measure =>
        show (n + 2) - ((j : Int) + 1).toNat < (n + 2) - ((j : Int) - 1 + 1).toNat
        omega
    · go_wp2_with fail
      go_ret
      exact ⟨rfl, BR.out⟩
end Go.Proofs.Ytiphekepglihlaa
