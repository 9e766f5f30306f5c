/- triadref2: Read. -/
import Derived.Test.YtplahohlmiphoaaRef2
namespace Go.Proofs.Ytplahohlmiphoaa
open Go.RowKit
set_option linter.unusedVariables false

theorem xRead_err (w : World) (r : Nat) (fp : Nat → Prop) (n : Nat) (s : DS) (at_ : Int) (h : XDk w r fp n s) (hbad : s.dead = true ∨ ¬ (0 ≤ at_ ∧ at_ < n)) :
    Calls Try.prog 46 #[.pointer (some ⟨r, 0, none⟩), .int .i64 at_] w fun e w' => e = .returned (.tuple #[.slice none 0 0, .int .i64 (if s.dead then 13 else 1)]) ∧ w = w' := by
  obtain ⟨sv, lv, gs, hs, h1, h2, _⟩ := h
  obtain ⟨p, c, rfl, _⟩ := own_slice h2
  obtain ⟨c0, c1, c2, c3, c4, f0, f1, f2, f3, f4⟩ := five_cells h1
  clear h1 h2
  by_cases hdead : s.dead = true
  · rw [hdead] at c3
    rw [hdead]
    clear hdead hbad
    go_enter Try.func46, Try.ntmps46
    go_wp2_with fail
    go_ret2
    exact ⟨rfl, rfl⟩
  · have hdead' : s.dead = false := by simpa using hdead
    have hb := hbad.resolve_left hdead
    rw [hdead'] at c3
    rw [hdead']
    clear hdead hbad
    by_cases hneg : at_ < 0
    · go_enter Try.func46, Try.ntmps46
      go_wp2_with fail
      go_ret2
      exact ⟨rfl, rfl⟩
    · have hge : (n : Int) ≤ at_ := by omega
      go_enter Try.func46, Try.ntmps46
      go_wp2_with fail
      go_ret2
      exact ⟨rfl, rfl⟩

theorem row_set {F r : List UInt8} {n k j : Nat} (hF : F.length = n * 512) (hk : k < n) (hr : r.length = 512) : row (setRowAt F k r) j = if k = j then r else row F j := by
  split
  · rename_i h; subst h; exact row_set_same hF hk hr
  · rename_i h; exact row_set_other hF hk hr (fun e => h e.symm)

theorem take_snoc {α : Type} (l : List α) (i : Nat) (p : α) (h : l[i]? = some p) : l.take (i + 1) = l.take i ++ [p] := by
  obtain ⟨hi, rfl⟩ := List.getElem?_eq_some_iff.1 h
  exact (List.take_append_getElem hi).symm

set_option maxRecDepth 100000 in
set_option maxHeartbeats 1600000 in
theorem xRead_own (w : World) (r : Nat) (fp : Nat → Prop) (n : Nat) (s : DS) (k : Nat) (h : XDk w r fp n s) (hdead : s.dead = false) (hk : k < n) :
    Calls Try.prog 46 #[.pointer (some ⟨r, 0, none⟩), .int .i64 k] w fun e w' => ∃ p c, e = .returned (.tuple #[.slice p 512 c, .int .i64 0]) ∧ Bs w' (.slice p 512 c) (row s.now k) ∧ Below w.heap.size w w' ∧ ∀ g, Value.ownBlock (.slice p 512 c) = some g → w.heap.size ≤ g := by
  obtain ⟨sv, lv, gs, hs, h1, h2, h3, h4, h5, h6, h7, h8, h9, h10, h11, h12, h13⟩ := h
  have hn := h12.n2
  have hsl : (s.since.length : Int) ≤ 2000000 := by have := h12.many; have := h12.ops1; omega
  obtain ⟨p, c, rfl, hp⟩ := own_slice h2
  obtain ⟨sg, rfl⟩ := hp (by omega)
  obtain ⟨lp, lc, rfl, hlp⟩ := own_slice h3
  obtain ⟨c0, c1, c2, c3, c4, f0, f1, f2, f3, f4⟩ := five_cells h1
  rw [hdead] at c3
  obtain ⟨g, hg⟩ : ∃ g, gs[k]? = some g := ⟨_, List.getElem?_eq_getElem (by omega)⟩
  have hsk : w.cell? ⟨sg, k, none⟩ = some (.slice (some ⟨g, 0, none⟩) 512 512) := by
    obtain ⟨b, off, he, hc⟩ := Rd.addr (Rd.of_own h2) (by omega)
    cases he
    have h := hc k (rowV g) (by rw [List.getElem?_map, hg]; rfl)
    rw [Nat.zero_add] at h
    exact h
  have HL : Hid (∀ i, i < s.since.length → ∃ lg p h, lp = some ⟨lg, 0, none⟩ ∧ s.since[i]? = some p ∧ hs[i]? = some h ∧ w.cell? ⟨lg, i * 2, none⟩ = some (.int .i64 (p.1 : Int)) ∧ w.cell? ⟨lg, i * 2 + 1, none⟩ = some (.slice (some ⟨h, 0, none⟩) 512 512) ∧ Blk w h (bv p.2) 5) := hid (fun i hi => by
    obtain ⟨lg, rfl⟩ := hlp (by omega)
    obtain ⟨b, off, he, hc⟩ := Rd.addr (Rd.of_own h3) (by omega)
    cases he
    obtain ⟨p, hp⟩ : ∃ p, s.since[i]? = some p := ⟨_, List.getElem?_eq_getElem hi⟩
    obtain ⟨h, hh⟩ : ∃ h, hs[i]? = some h := ⟨_, List.getElem?_eq_getElem (by omega)⟩
    obtain ⟨q1, q2⟩ := chCells_at _ _ _ _ _ hp hh
    have e1 := hc _ _ q1
    have e2 := hc _ _ q2
    rw [Nat.zero_add] at e1 e2
    exact ⟨lg, p, h, rfl, hp, hh, e1, e2, (h7 i h p hh hp).1⟩)
  have OK := hid h12
  have HN := hid h13
  have HB0 : Hid (Blk w g (bv (row (dAll (s.since.take 0) s.kept) k)) 5) := hid (h6 k g hg).1
  clear h1 h2 h3 h4 h5 h6 h7 h8 h9 h10 h11 h12 h13 hp hlp hg
  go_enter Try.func46, Try.ntmps46
  go_wp2_with fail
  go_loopw [6, 7] (fun b i wr => ∃ (j g : Nat), j ≤ s.since.length ∧ b = .slice (some ⟨g, 0, none⟩) 512 512 ∧ i = .int .i64 j ∧ wr = w ∧ Blk w g (bv (row (dAll (s.since.take j) s.kept) k)) 5) (fun _ i _ => s.since.length + 1 - (intOf i).toNat)
  case atStart => exact ⟨0, g, Nat.zero_le _, rfl, rfl, rfl, HB0.out⟩
  case round =>
    obtain ⟨j, g, hj, rfl, rfl, rfl, hb⟩ := hrel
    have HB := hid hb
    clear hb
    by_cases hlt : j < s.since.length
    · obtain ⟨lg, p, h, rfl, hp, hh, q1, q2, q3⟩ := HL.out j hlt
      have hps := OK.out.since p (List.mem_of_getElem? hp)
      have hstep : row (dAll (s.since.take (j + 1)) s.kept) k = if p.1 = k then p.2 else row (dAll (s.since.take j) s.kept) k := by
        rw [take_snoc _ _ _ hp, dAll_snoc]
        exact row_set (dAll_length _ _ (fun q hq => OK.out.since q (List.mem_of_mem_take hq)) OK.out.kept) hps.1 hps.2
      have HS := hid hstep
      have Q3 := hid q3
      clear hp hh q3 hps hstep
      by_cases hpk : p.1 = k
      · have HPK := hid hpk
        have hpk2 : ((p.1 : Int) == (k : Int)) = true := by simp [hpk]
        clear hpk
        go_wp2_with fail
        go_roundw
        case rel => exact ⟨j + 1, h, by omega, rfl, by go_num, (by first | exact rfl | exact trivial), by rw [HS.out, if_pos HPK.out]; exact Q3.out⟩
        case measure => simp [intOf]; omega
      · have hpk2 : ((p.1 : Int) == (k : Int)) = false := by rw [beq_eq_false_iff_ne]; omega
        go_wp2_with fail
        go_roundw
        case rel => exact ⟨j + 1, g, by omega, rfl, by go_num, (by first | exact rfl | exact trivial), by rw [HS.out, if_neg hpk]; exact HB.out⟩
        case measure => simp [intOf]; omega
    · have hj2 : s.since.length = j := by omega
      have hrow : row (dAll (s.since.take j) s.kept) k = row s.now k := by rw [HN.out, ← hj2, List.take_length]
      have hl5 := row_length OK.out.now hk
      have HBB := HB.out
      rw [hrow] at HBB
      have HF := hid HBB
      clear hrow HBB HB hj2
      generalize hgr : row s.now k = R at hl5 HF
      have HGR := hid hgr
      clear hgr
      have HR := hid hl5
      clear hl5
      go_wp2_with (at_builtin; refine wpList_append_rd rfl _ _ 26 rfl wr.heap.size 5 _ 1 1 Try.underlying26 infoU8 rfl (by decide) _ 0 [] rfl (own_fresh _ _ _ 0 rfl (by simp [maxLen]) _ (Nat.le_refl _)) _ 512 (bv R) rfl ((Bs.blk HF.out HR.out.symm (by simp only [maxLen]; omega)).new ((Below.refl _ _).alloc (Nat.le_refl _) _) |> fun hq => by rw [HR.out] at hq; exact hq) (bv_one _) (by simp only [maxLen]; omega) (by omega) (by simp) ?_; intro pp cc w4 hown4 hg4 hb4; have OW4 := hid hown4; have G4 : Hid (Below wr.heap.size wr w4) := hid (((Below.refl wr.heap.size wr).alloc (Nat.le_refl _) _).grown hg4 (by simp) (by intro k hk; cases hk; exact Nat.le_refl _)); clear hown4 hg4 hb4)
      go_ret2
      refine ⟨_, _, rfl, ?_, G4.out, fun g hg => (OW4.out.lt g (by rw [Nat.zero_add]; exact hg)).1⟩
      have h := Rd.of_own OW4.out
      rw [Nat.zero_add, List.nil_append] at h
      unfold Bs
      rw [HGR.out, HR.out]
      exact h
theorem xRead_ok (w : World) (r : Nat) (fp : Nat → Prop) (n : Nat) (s : DS) (k : Nat) (h : XDk w r fp n s) (hdead : s.dead = false) (hk : k < n) :
    Calls Try.prog 46 #[.pointer (some ⟨r, 0, none⟩), .int .i64 k] w fun e w' => ∃ p c, e = .returned (.tuple #[.slice p 512 c, .int .i64 0]) ∧ Bs w' (.slice p 512 c) (row s.now k) ∧ Below w.heap.size w w' :=
  (xRead_own w r fp n s k h hdead hk).mono fun e w' ⟨p, c, h1, h2, h3, _⟩ => ⟨p, c, h1, h2, h3⟩
end Go.Proofs.Ytplahohlmiphoaa
