/- triadref2: Sync, Crash, Stop, and the calls in one word. -/
import Derived.Test.YtplahohlmiphoaaRef2d
namespace Go.Proofs.Ytplahohlmiphoaa
open Go.RowKit
set_option linter.unusedVariables false

/-- only the head turns -/
theorem xdk_head {w w' : World} {r : Nat} {fp : Nat → Prop} {n : Nat} {s s' : DS} (h : XDk w r fp n s) (x0 x1 : Value)
    (hx : Blk w r [x0, x1, .int .i64 s.stop, .bool s.dead, .int .i64 s.ops] 77) (hb : Blk w' r [x0, x1, .int .i64 s'.stop, .bool s'.dead, .int .i64 s'.ops] 77)
    (hc : Chg (fun k => k = r) w w') (e1 : s'.now = s.now) (e2 : s'.kept = s.kept) (e3 : s'.since = s.since) (ok : DOk n s') : XDk w' r fp n s' ∧ Chg fp w w' := by
  obtain ⟨sv, lv, gs, hs, h1, h2, h3, h4, h5, h6, h7, h8, h9, h10, h11, h12, h13⟩ := h
  have he : some (Obj.cells [x0, x1, .int .i64 s.stop, .bool s.dead, .int .i64 s.ops].toArray 77 (0, 0)) = some (Obj.cells [sv, lv, .int .i64 s.stop, .bool s.dead, .int .i64 s.ops].toArray 77 (0, 0)) := hx.symm.trans h1
  have he2 : [x0, x1, Value.int .i64 s.stop, .bool s.dead, .int .i64 s.ops] = [sv, lv, .int .i64 s.stop, .bool s.dead, .int .i64 s.ops] := by
    have := Option.some.inj he
    injection this with q1
    exact Array.toList_inj.2 q1
  obtain rfl : x0 = sv := by injection he2
  obtain rfl : x1 = lv := by injection he2 with _ q; injection q
  refine ⟨⟨x0, x1, gs, hs, hb, own_chg h2 hc (fun g hg => (h8 g hg).1), ?_, h4, ?_, fun i g hg => ?_, fun i g p hg hp => ?_, h8, h9, h10, fun k hk => Nat.lt_of_lt_of_le (h11 k hk) hc.size, ok, by rw [e1, e2, e3]; exact h13⟩, hc.mono fun k _ hk => by rw [hk]; exact h10⟩
  · rw [e3]; exact own_chg h3 hc (fun g hg => (h9 g hg).1)
  · rw [e3]; exact h5
  · rw [e2]; exact ⟨(h6 i g hg).1.chg hc (h6 i g hg).2.2.1, (h6 i g hg).2⟩
  · rw [e3] at hp; exact ⟨(h7 i g p hg hp).1.chg hc (h7 i g p hg hp).2.2.1, (h7 i g p hg hp).2⟩

theorem xOp_any (w : World) (r : Nat) (fp : Nat → Prop) (n : Nat) (s : DS) (h : XDk w r fp n s) (hd : s.dead = false) (ho : s.ops ≤ 1000000) :
    Calls Try.prog 40 #[.pointer (some ⟨r, 0, none⟩)] w fun e w' => e = .returned (.bool (dStepGone s)) ∧ XDk w' r fp n (dStep s) ∧ Chg fp w w' ∧ w'.heap.size = w.heap.size := by
  have hh := h
  obtain ⟨sv, lv, gs, hs, h1, h2, h3, h4, h5, h6, h7, h8, h9, h10, h11, h12, h13⟩ := hh
  refine (xOp_raw w r _ _ s h1 hd h12.stop0 h12.stop1 (by have := h12.many; omega) ho).mono ?_
  rintro e w' ⟨rfl, g1, g2, g3⟩
  obtain ⟨r1, r2⟩ := xdk_head (s' := dStep s) h _ _ h1 g1 g2 (dStep_now s) (dStep_kept s) (dStep_since s) (dStep_ok h12 ho)
  exact ⟨rfl, r1, r2, g3⟩

theorem xStop_any (w : World) (r : Nat) (fp : Nat → Prop) (n : Nat) (s : DS) (m : Int) (h : XDk w r fp n s) (hm : m ≤ 9223372036854775807) :
    Calls Try.prog 24 #[.pointer (some ⟨r, 0, none⟩), .int .i64 m] w fun e w' => e = .returned (.tuple #[]) ∧ XDk w' r fp n { s with stop := max m 0 } ∧ Chg fp w w' ∧ w'.heap.size = w.heap.size := by
  have H := hid h
  obtain ⟨sv, lv, gs, hs, h1, _⟩ := h
  obtain ⟨c0, c1, c2, c3, c4, f0, f1, f2, f3, f4⟩ := five_cells h1
  have H1 := hid h1
  clear h1
  obtain ⟨q, hq, hq0, hq1⟩ : ∃ q, max m 0 = q ∧ 0 ≤ q ∧ q ≤ 9223372036854775807 := ⟨_, rfl, by omega, by omega⟩
  rw [hq]
  go_enter Try.func24, Try.ntmps24
  go_wp2
  go_end0
  have ok := H.out.ok
  have hb := H1.out.set 2 (.int .i64 q)
  obtain ⟨r1, r2⟩ := xdk_head (s' := { s with stop := q }) H.out _ _ H1.out hb (Chg.setCell (fp := fun k => k = r) _ rfl _) rfl rfl rfl ⟨ok.n1, ok.n2, ok.now, ok.kept, ok.since, ok.many, hq0, hq1, ok.ops1⟩
  exact ⟨rfl, r1, r2, by simp [World.setCell]⟩

theorem XDk.nowEq {w : World} {r : Nat} {fp : Nat → Prop} {n : Nat} {s : DS} (h : XDk w r fp n s) : s.now = dAll s.since s.kept := by
  obtain ⟨_, _, _, _, _, _, _, _, _, _, _, _, _, _, _, _, h⟩ := h; exact h

set_option maxRecDepth 100000 in
theorem xSync_any (w : World) (r : Nat) (fp : Nat → Prop) (n : Nat) (s : DS) (h : XDk w r fp n s) (ho : s.ops ≤ 1000000) :
    Calls Try.prog 22 #[.pointer (some ⟨r, 0, none⟩)] w fun e w' => e = .returned (.int .i64 (dSync s).2) ∧ XDk w' r fp n (dSync s).1 ∧ Chg fp w w' ∧ w'.heap.size = w.heap.size := by
  have H := hid h
  obtain ⟨sv, lv, gs, hs, h1, _⟩ := h
  obtain ⟨c0, c1, c2, c3, c4, f0, f1, f2, f3, f4⟩ := five_cells h1
  clear h1
  by_cases hdead : s.dead = true
  · rw [hdead] at c3
    have e1 : dSync s = (s, 13) := if_pos hdead
    rw [e1]
    clear hdead e1
    go_enter Try.func22, Try.ntmps22
    go_wp2_with fail
    go_ret
    exact ⟨rfl, H.out, Chg.refl _ _, rfl⟩
  have hdead' : s.dead = false := by simpa using hdead
  have HS := hid (xOp_any w r fp n s H.out hdead' ho)
  rw [hdead'] at c3
  cases hgo : dStepGone s with
  | true =>
    have e1 : dSync s = (dStep s, 13) := by unfold dSync; rw [if_neg hdead, if_pos hgo]
    rw [e1]
    clear hdead e1 hdead'
    go_enter Try.func22, Try.ntmps22
    go_wp2_with (first
      | (go_at_call 40; refine HS.out.mono ?_; rintro e8 w8 ⟨rfl, h8, h9, h10⟩; (have H8 := hid h8); (have C8 := hid h9); (have L8 := hid h10); clear h8 h9 h10; rw [hgo]))
    all_goals (go_ret; exact ⟨rfl, H8.out, C8.out, L8.out⟩)
  | false =>
    have e1 : dSync s = (dSynced (dStep s), 0) := by unfold dSync; rw [if_neg hdead, if_neg (by rw [hgo]; simp)]
    rw [e1]
    clear hdead e1 hdead'
    go_enter Try.func22, Try.ntmps22
    go_wp2_with (first
      | (go_at_call 40; refine HS.out.mono ?_; rintro e8 w8 ⟨rfl, h8, h9, h10⟩; (have H8 := hid h8); (have C8 := hid h9); (have L8 := hid h10); clear h8 h9 h10; rw [hgo])
      | (go_at_call 41; refine (xDone_any w8 r fp n (dStep s) _ [] true H8.out (Rd.nil _ _) (fun h => by simp at h)).mono ?_; rintro e9 w9 ⟨rfl, h8, h9, h10⟩; (have H9 := hid h8); (have C9 := hid h9); (have L9 := hid h10); clear h8 h9 h10))
    all_goals (
      go_ret
      have e2 : dDid (dStep s) (dDone true [] (dStep s).since (dStep s).kept) = dSynced (dStep s) := by
        have h1 := H8.out.nowEq
        unfold dDid dSynced dDone
        rw [if_pos rfl, ← h1]
      have h9 := H9.out
      rw [e2] at h9
      exact ⟨rfl, h9, C8.out.trans C9.out (fun _ _ h => h), L9.out.trans L8.out⟩)

set_option maxRecDepth 100000 in
theorem xCrash_any (w : World) (r : Nat) (fp : Nat → Prop) (n : Nat) (s : DS) (kv : Value) (keep : List Bool) (h : XDk w r fp n s) (hk : Rd w 1 kv keep.length (keep.map Value.bool)) (hkn : 0 < keep.length → ∀ g, kv.ownBlock = some g → ¬ fp g) :
    Calls Try.prog 32 #[.pointer (some ⟨r, 0, none⟩), kv] w fun e w' => e = .returned (.tuple #[]) ∧ XDk w' r fp n (dCrash s keep) ∧ Chg fp w w' ∧ w'.heap.size = w.heap.size := by
  have HD := hid (xDone_any w r fp n s kv keep false h hk hkn)
  obtain ⟨_, kp, kc, rfl, _⟩ := hk
  clear h hkn
  go_enter Try.func32, Try.ntmps32
  go_wp2_with (go_at_call 41; refine HD.out.mono ?_; rintro e9 w9 ⟨rfl, h8, h9, h10⟩; (have hh := h8); obtain ⟨sv, lv, gs, hs, q1, _⟩ := hh; (have Q1 := hid q1); (obtain ⟨c0, c1, c2, c3, c4, f0, f1, f2, f3, f4⟩ := five_cells q1); (have H9 := hid h8); (have C9 := hid h9); (have L9 := hid h10); clear h8 h9 h10 q1)
  go_end0
  have ok := H9.out.ok
  have hb := (Q1.out.set 2 (.int .i64 0)).set 3 (.bool false)
  have hc : Chg (fun k => k = r) w9 ((w9.setCell ⟨r, 2, none⟩ (.int .i64 0)).setCell ⟨r, 3, none⟩ (.bool false)) := (Chg.setCell (fp := fun k => k = r) _ rfl _).trans (Chg.setCell (fp := fun k => k = r) _ rfl _) (fun _ _ h => h)
  obtain ⟨r1, r2⟩ := xdk_head (s' := dCrash s keep) H9.out _ _ Q1.out hb hc rfl rfl rfl ⟨ok.n1, ok.n2, ok.now, ok.kept, ok.since, ok.many, Int.le_refl _, by show (0 : Int) ≤ 9223372036854775807; omega, ok.ops1⟩
  exact ⟨rfl, r1, C9.out.trans r2 (fun _ _ h => h), by have h1 := L9.out; simp [World.setCell]; exact h1⟩

theorem xWrite_any (w : World) (r : Nat) (fp : Nat → Prop) (n : Nat) (s : DS) (at_ : Int) (v : Value) (l : List UInt8) (h : XDk w r fp n s) (hv : Bs w v l) (hl : l.length ≤ 1000000) (ho : s.ops ≤ 1000000) :
    Calls Try.prog 20 #[.pointer (some ⟨r, 0, none⟩), .int .i64 at_, v] w fun e w' => e = .returned (.int .i64 (dWrite n s at_ l).2) ∧ XTo w r fp n (dWrite n s at_ l).1 w' := by
  by_cases hbad : s.dead = true ∨ ¬ (0 ≤ at_ ∧ at_ < n) ∨ 512 < l.length
  · refine (xWrite_err w r fp n s at_ v l h hv hl hbad).mono ?_
    rintro e w' ⟨rfl, rfl⟩
    have hw : dWrite n s at_ l = (s, if s.dead then 13 else 1) := by
      unfold dWrite
      by_cases hd : s.dead = true
      · rw [if_pos hd, if_pos hd]
      · rw [if_neg hd, if_neg hd, if_pos (hbad.resolve_left hd)]
    rw [hw]
    exact ⟨rfl, fp, h, Chg.refl _ _, fun _ h => .inl h⟩
  · have hd : s.dead = false := by cases hx : s.dead with | true => exact absurd (.inl hx) hbad | false => rfl
    have hr : ¬ (¬ (0 ≤ at_ ∧ at_ < n) ∨ 512 < l.length) := fun hx => hbad (.inr hx)
    obtain ⟨k, rfl⟩ := Int.eq_ofNat_of_zero_le (show 0 ≤ at_ by omega)
    refine (xWrite_ok w r fp n s k v l h hv hd (by omega) (by omega) ho).mono ?_
    have hw : dWrite n s k l = (dStep (dWritten s k l), if dStepGone s then 13 else 0) := by
      unfold dWrite
      rw [if_neg (by rw [hd]; simp), if_neg hr]
      rfl
    rw [hw]
    intro e w' he
    exact he
end Go.Proofs.Ytplahohlmiphoaa
