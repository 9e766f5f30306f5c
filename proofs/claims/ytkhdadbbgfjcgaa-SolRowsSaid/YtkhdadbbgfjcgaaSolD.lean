/- sol.Join, sol.Left. -/
import Derived.Test.YtkhdadbbgfjcgaaSolE
namespace Go.Proofs.Ytkhdadbbgfjcgaa
open Go.RowKit
set_option linter.unusedVariables false

/-- what one meets of a row -/
def mts (s : Sl) (l : List Sl) : List Sl := l.filterMap (meetP s)
def rowP (stay : Bool) (b : List Sl) (s : Sl) : List Sl := if mts s b = [] ∧ stay = true then [s] else mts s b
def allP (stay : Bool) (a b : List Sl) : List Sl := a.flatMap (rowP stay b)
def jnP (stay : Bool) (a b : List Sl) : Option (List Sl) := if (allP stay a b).length ≤ 2000 then some (srt textP (allP stay a b)) else none
theorem mts_succ {s : Sl} {l : List Sl} {i : Nat} (h : i < l.length) : mts s (l.take (i + 1)) = mts s (l.take i) ++ (meetP s l[i]).toList := by
  unfold mts
  rw [List.take_add_one, List.getElem?_eq_getElem h, List.filterMap_append]
  cases hm : meetP s l[i] <;> simp [hm]
theorem mts_mono (s : Sl) (l : List Sl) (i : Nat) : (mts s (l.take i)).length ≤ (mts s l).length := by
  have h : mts s l = mts s (l.take i) ++ mts s (l.drop i) := by unfold mts; rw [← List.filterMap_append, List.take_append_drop]
  rw [h, List.length_append]; omega
theorem mts_len (s : Sl) (l : List Sl) : (mts s l).length ≤ l.length := List.length_filterMap_le _ _
theorem all_succ {stay : Bool} {a b : List Sl} {i : Nat} (h : i < a.length) : allP stay (a.take (i + 1)) b = allP stay (a.take i) b ++ rowP stay b a[i] := by
  unfold allP
  rw [List.take_add_one, List.getElem?_eq_getElem h, List.flatMap_append]
  simp
theorem all_mono (stay : Bool) (a b : List Sl) (i : Nat) : (allP stay (a.take i) b).length ≤ (allP stay a b).length := by
  have h : allP stay a b = allP stay (a.take i) b ++ allP stay (a.drop i) b := by unfold allP; rw [← List.flatMap_append, List.take_append_drop]
  rw [h, List.length_append]; omega
theorem mts_ok {s : Sl} {l : List Sl} {n m : Nat} (hs : OkS n s) (hl : ∀ x ∈ l, OkS m x) : ∀ x ∈ mts s l, OkS (n + m) x := by
  intro x hx
  obtain ⟨y, hy, hm⟩ := List.mem_filterMap.1 hx
  exact OkS.meet hs (hl y hy).ok (hl y hy).len hm
theorem all_ok {stay : Bool} {a b : List Sl} {n m : Nat} (ha : ∀ x ∈ a, OkS n x) (hb : ∀ x ∈ b, OkS m x) : ∀ x ∈ allP stay a b, OkS (n + m) x := by
  intro x hx
  obtain ⟨s, hs, hx⟩ := List.mem_flatMap.1 hx
  unfold rowP at hx
  split at hx
  · simp at hx; subst hx; exact (ha _ hs).mono (by omega)
  · exact mts_ok (ha s hs) hb x hx

theorem ss_append (a b : List Rw) : ss (a ++ b) = ss a ++ ss b := by simp [ss]
theorem sv_append (a b : List Rw) : sv (a ++ b) = sv a ++ sv b := by simp [sv]
theorem SolsAt.one {w : World} {gx : Nat} {u : Value} {s : Sl} (h : Blk w gx [u] TL) (hu : SolAt w u s) : SolsAt w (.slice (some ⟨gx, 0, none⟩) 1 1) [s] :=
  ⟨[(u, s)], rfl, rd_sol h, fun x hx => by simp at hx; subst hx; exact hu⟩
theorem OwnL.lim {B0 : Nat} {w : World} {v : Value} {L : List Sl} (h : OwnL B0 w v L) : ∃ p c, v = .slice p L.length c := h.shape
/-- a row of solutions behind a row of one's own -/
theorem wpList_append_sols {w : World} {ops : Array Oper} {rest : List Oper} {o : Oper} {a : Act} {Q : Exit → Act → World → Prop} (hgd : o.guard = none) (s x : Operand)
    (ho : o.op = .call { callee := .builtin .append, args := #[s, x], argTypes := #[TS, TS] })
    (B0 : Nat) (v : Value) (L : List Sl) (hs : a.eval s = v) (hown : OwnL B0 w v L) (xv : Value) (M : List Sl) (hx : a.eval x = xv) (hrd : SolsAt w xv M) (hlim : L.length + M.length ≤ 1000000) (hB : B0 ≤ w.heap.size)
    (h : ∀ (p' : Option Addr) (c' : Nat) w', OwnL B0 w' (.slice p' (L.length + M.length) c') (L ++ M) → Below B0 w w' → Kp w w' → wpList Try.prog ops Q rest (a.put o.dst (.slice p' (L.length + M.length) c')) w') :
    wpList Try.prog ops Q (o :: rest) a w := by
  obtain ⟨G, hG, hgo, hgs⟩ := hown
  obtain ⟨K, hK, hkr, hks⟩ := hrd
  refine wpList_append_rd hgd s x TS ho B0 TL _ 1 24 Try.underlying24 infoL rfl (by decide) v L.length (sv G) hs hgo xv M.length (sv K) hx hkr (sv_one hks) (by simp only [maxLen]; omega) (by omega) hB ?_
  intro p' c' w' ho' hg' _
  have hk := own_kp (by decide) hgo hg'
  refine h p' c' w' ⟨G ++ K, by rw [ss_append, hG, hK], ?_, fun y hy => ?_⟩ (own_below hgo hg' hB) hk
  · rw [sv_append, List.length_append]; exact ho'
  · rcases List.mem_append.1 hy with hy | hy
    · exact (hgs y hy).kp hk
    · exact (hks y hy).kp hk

def ResM (B0 : Nat) (w : World) (o : Option (List Sl)) (e : Ending) (w' : World) : Prop :=
  ∃ p c, e = .returned (.tuple #[.slice p (o.getD []).length c, .bool o.isSome]) ∧ OwnL B0 w' (.slice p (o.getD []).length c) (o.getD []) ∧ Below B0 w w'
def meet1P (s : Sl) (l : List Sl) (lf : Nat) : Option (List Sl) := if (mts s l).length ≤ lf then some (mts s l) else none

set_option maxRecDepth 100000 in
set_option maxHeartbeats 4000000 in
theorem meets_any (s : Sl) (l : List Sl) (vs vl : Value) (lf : Nat) (w : World) (n m : Nat) (hs : SolAt w vs s) (hl : SolsAt w vl l) (os : OkS n s) (ol : ∀ x ∈ l, OkS m x) (hn : n + m ≤ 200) (hlf : lf ≤ 2000) (hll : l.length ≤ 100000) :
    Calls Try.prog 51 #[vs, vl, .int .i64 lf] w (ResM w.heap.size w (meet1P s l lf)) := by
  obtain ⟨p, c, rfl⟩ := hl.shape
  have HS := hid hs
  have HL := hid hl
  have OS := hid os
  have OL := hid ol
  clear hs hl os ol
  go_enter Try.func51, Try.ntmps51
  go_wp2_with fail
  go_loopw [8, 15] (fun vo vi wr => ∃ (i k : Nat) (p1 : Option Addr) (c1 : Nat) (M : List Sl), vo = .slice p1 k c1 ∧ vi = .int .i64 i ∧ i ≤ l.length ∧ k ≤ lf ∧ Hid (M = mts s (l.take i)) ∧ Hid (M.length = k) ∧ Hid (OwnL w.heap.size wr (.slice p1 k c1) M) ∧ Hid (Below w.heap.size w wr)) (fun vo vi _ => l.length + 1 - (intOf vi).toNat)
  case atStart => exact ⟨0, 0, none, 0, [], rfl, rfl, Nat.zero_le _, Nat.zero_le _, by rw [List.take_zero]; exact rfl, rfl, OwnL.nil _ _, Below.refl _ _⟩
  case round =>
    obtain ⟨i, k, p1, c1, M, rfl, rfl, hi, hk, HM, HK, HO, HB⟩ := hrel
    have hsz := HB.out.size
    by_cases hlt : i < l.length
    · have hlt2 : (i : Int) < (l.length : Int) := by omega
      obtain ⟨b, off, u, rfl, hcell, hsu⟩ := (HL.out.new HB.out).get hlt
      have HSU := hid hsu
      have HMS := hid (mts_succ (s := s) hlt)
      have HOL := hid (OL.out _ (List.getElem_mem hlt))
      have hmono := mts_mono s l (i + 1)
      rw [mts_succ hlt] at hmono
      have HMO := hid hmono
      clear hsu hmono
      generalize l[i] = x at *
      go_wp2_with fail
      refine (meet_any s x vs u wr n m (HS.out.new HB.out) HSU.out OS.out HOL.out hn).mono ?_
      rintro e1 w1 ⟨p2, c2, rfl, ho1, hb1⟩
      have HO1 := hid (HO.out.new hb1)
      have HB1 := hid (HB.out.trans (hb1.mono hsz))
      have HX := hid ho1
      clear ho1 hb1 hcell
      cases hm : meetP s x with
      | none =>
        rw [hm] at HX HMS HMO
        clear hm
        go_wp2_with fail
        go_roundw
        case rel => exact ⟨i + 1, k, p1, c1, M, rfl, by go_num, by omega, hk, by rw [HMS.out, ← HM.out]; exact hid (by simp), HK, HO1, HB1⟩
        case measure => simp [intOf]; omega
      | some y =>
        rw [hm] at HX HMS HMO
        simp only [Option.getD_some] at HX
        clear hm
        by_cases hkl : k < lf
        · have hkl2 : ¬ (lf : Int) ≤ (k : Int) := by omega
          go_wp2_with (at_builtin; refine wp_keep ?_)
          refine hid ?_
          have hz : Blk (w1.alloc (Obj.cells ([.slice p2 y.length c2] : List Value).toArray TL)) w1.heap.size [.slice p2 y.length c2] TL := heap_alloc_new w1 _
          have hzb := (Below.refl w1.heap.size w1).alloc (Nat.le_refl _) (Obj.cells ([.slice p2 y.length c2] : List Value).toArray TL)
          have hoz := HO1.out.new hzb
          have hbz := HB1.out.trans (hzb.mono HB1.out.size)
          have hsz1 := SolsAt.one hz (HX.out.sol.new hzb)
          generalize hw3 : w1.alloc (Obj.cells ([.slice p2 y.length c2] : List Value).toArray TL) = w3 at hz hzb hoz hbz hsz1
          have hw4 : w1.alloc (Obj.cells #[.slice p2 y.length c2] TL) = w3 := hw3
          try simp only [hw4]
          clear hw3 hw4
          refine wpList_append_sols rfl _ _ rfl w.heap.size _ M rfl hoz _ [y] rfl hsz1 (by rw [HK.out]; simp; omega) hbz.size ?_
          intro p4 c4 w4 ho4 hb4 _
          have HK4 := hid (show M.length + [y].length = k + 1 by rw [HK.out]; rfl)
          rw [HK4.out] at ho4 ⊢
          have HO4 := hid ho4
          have HB4 := hid (hbz.trans hb4)
          clear ho4 hb4 hz hzb hoz hbz hsz1
          go_wp2_with fail
          case roundEnd => exact ⟨⟨i + 1, k + 1, p4, c4, M ++ [y], rfl, by go_num, by omega, by omega, by rw [HMS.out, ← HM.out]; exact hid (by simp), hid (by simp [HK.out]), HO4, HB4⟩, by simp [intOf]; omega⟩
        · have hkl2 : (lf : Int) ≤ (k : Int) := by omega
          go_wp2_with fail
          go_ret2
          have hno : meet1P s l lf = none := by
            unfold meet1P
            rw [if_neg]
            have h1 := HMO.out
            rw [← HM.out, List.length_append, HK.out] at h1
            simp at h1
            omega
          rw [hno]
          exact ⟨none, 0, rfl, OwnL.nil _ _, HB1.out⟩
    · have hlt2 : ¬ (i : Int) < (l.length : Int) := by omega
      rw [List.take_of_length_le (by omega)] at HM
      go_wp2_with fail
      go_ret2
      have hyes : meet1P s l lf = some M := by
        unfold meet1P
        rw [← HM.out, if_pos (by rw [HK.out]; exact hk)]
      rw [hyes]
      refine ⟨p1, c1, ?_, ?_, HB.out⟩
      · simp only [Option.getD_some, HK.out]; rfl
      · simp only [Option.getD_some, HK.out]; exact HO.out

/-- a row of solutions, and an error's number -/
def ResJ (B0 : Nat) (w : World) (o : Option (List Sl)) (e : Ending) (w' : World) : Prop :=
  ∃ p c, e = .returned (.tuple #[.slice p (o.getD []).length c, .int .i64 (if o.isSome then 0 else 4)]) ∧ OwnL B0 w' (.slice p (o.getD []).length c) (o.getD []) ∧ Below B0 w w'
theorem jn_none {stay : Bool} {a b : List Sl} (h : 2000 < (allP stay a b).length) : jnP stay a b = none := by unfold jnP; rw [if_neg (by omega)]
theorem jn_some {stay : Bool} {a b : List Sl} (h : (allP stay a b).length ≤ 2000) : jnP stay a b = some (srt textP (allP stay a b)) := by unfold jnP; rw [if_pos h]
set_option maxRecDepth 100000 in
set_option maxHeartbeats 4000000 in
theorem joined_any (stay : Bool) (a b : List Sl) (va vb : Value) (w : World) (n m : Nat) (ha : SolsAt w va a) (hb : SolsAt w vb b) (oa : ∀ x ∈ a, OkS n x) (ob : ∀ x ∈ b, OkS m x) (hn : n + m ≤ 200) (hal : a.length ≤ 100000) (hbl : b.length ≤ 100000) :
    Calls Try.prog 29 #[va, vb, .bool stay] w (ResJ w.heap.size w (jnP stay a b)) := by
  obtain ⟨p, c, rfl⟩ := ha.shape
  have HA := hid ha
  have HBB := hid hb
  have OA := hid oa
  have OB := hid ob
  clear ha hb oa ob
  go_enter Try.func29, Try.ntmps29
  go_wp2_with fail
  go_loopw [8, 15] (fun vo vi wr => ∃ (i k : Nat) (p1 : Option Addr) (c1 : Nat) (M : List Sl), vo = .slice p1 k c1 ∧ vi = .int .i64 i ∧ i ≤ a.length ∧ k ≤ 2000 ∧ Hid (M = allP stay (a.take i) b) ∧ Hid (M.length = k) ∧ Hid (OwnL w.heap.size wr (.slice p1 k c1) M) ∧ Hid (Below w.heap.size w wr)) (fun vo vi _ => a.length + 1 - (intOf vi).toNat)
  case atStart => exact ⟨0, 0, none, 0, [], rfl, rfl, Nat.zero_le _, Nat.zero_le _, by rw [List.take_zero]; exact rfl, rfl, OwnL.nil _ _, Below.refl _ _⟩
  case round =>
    obtain ⟨i, k, p1, c1, M, rfl, rfl, hi, hk, HM, HK, HO, HB⟩ := hrel
    have hsz := HB.out.size
    by_cases hlt : i < a.length
    · have hlt2 : (i : Int) < (a.length : Int) := by omega
      obtain ⟨g, off, u, rfl, hcell, hsu⟩ := (HA.out.new HB.out).get hlt
      have HSU := hid hsu
      have HMS := hid (all_succ (stay := stay) (b := b) hlt)
      have HOL := hid (OA.out _ (List.getElem_mem hlt))
      have hmono := all_mono stay a b (i + 1)
      rw [all_succ hlt, List.length_append, ← HM.out, HK.out] at hmono
      have HMO := hid hmono
      obtain ⟨pu, cu, rfl⟩ := hsu.shape
      clear hsu hmono
      generalize a[i] = s at *
      obtain ⟨lf, hlf⟩ : ∃ lf : Nat, (2000 : Int) - (k : Int) = (lf : Int) := ⟨2000 - k, by omega⟩
      have hlfl : lf ≤ 2000 := by omega
      have HLF := hid (show lf + k = 2000 by omega)
      go_wp2_with fail
      refine (meets_any s b (.slice pu s.length cu) vb lf wr n m HSU.out (HBB.out.new HB.out) HOL.out OB.out hn hlfl hbl).mono ?_
      rintro e1 w1 ⟨p2, c2, rfl, ho1, hb1⟩
      have HO1 := hid (HO.out.new hb1)
      have HB1 := hid (HB.out.trans (hb1.mono hsz))
      have HX := hid (ho1.base (B0 := w.heap.size) hsz)
      have HSU1 := hid (HSU.out.new hb1)
      clear ho1 hb1 hcell
      have HLR := hid (show (mts s b).length ≤ 100000 from Nat.le_trans (mts_len s b) hbl)
      by_cases hml : (mts s b).length ≤ lf
      · have hm1 : meet1P s b lf = some (mts s b) := by unfold meet1P; rw [if_pos hml]
        rw [hm1] at HX ⊢
        simp only [Option.getD_some, Option.isSome_some] at HX ⊢
        clear hm1
        by_cases hm0 : (mts s b).length = 0
        · have hme : mts s b = [] := List.eq_nil_of_length_eq_zero hm0
          have HME := hid hme
          rw [hme] at HX ⊢
          simp only [List.length_nil] at HX ⊢
          clear hme hm0 hml
          cases stay with
          | true =>
            have HRW : Hid (rowP true b s = [s]) := hid (by unfold rowP; rw [if_pos ⟨HME.out, rfl⟩])
            go_wp2_with (at_builtin; refine wp_keep ?_)
            refine hid ?_
            have hz : Blk (w1.alloc (Obj.cells ([.slice pu s.length cu] : List Value).toArray TL)) w1.heap.size [.slice pu s.length cu] TL := heap_alloc_new w1 _
            have hzb := (Below.refl w1.heap.size w1).alloc (Nat.le_refl _) (Obj.cells ([.slice pu s.length cu] : List Value).toArray TL)
            have hoz := HO1.out.new hzb
            have hbz := HB1.out.trans (hzb.mono HB1.out.size)
            have hsz1 := SolsAt.one hz (HSU1.out.new hzb)
            generalize hw3 : w1.alloc (Obj.cells ([.slice pu s.length cu] : List Value).toArray TL) = w3 at hz hzb hoz hbz hsz1
            have hw4 : w1.alloc (Obj.cells #[.slice pu s.length cu] TL) = w3 := hw3
            try simp only [hw4]
            clear hw3 hw4
            refine wpList_append_sols rfl _ _ rfl w.heap.size _ M rfl hoz _ [s] rfl hsz1 (by rw [HK.out]; have := HLR.out; (try simp only [List.length_singleton]); (try simp only [List.length_nil]); omega) hbz.size ?_
            intro p4 c4 w4 ho4 hb4 _
            rw [HK.out] at ho4 ⊢
            have HO4 := hid ho4
            have HB4 := hid (hbz.trans hb4)
            clear ho4 hb4
            obtain ⟨kn, hkn⟩ : ∃ kn : Nat, k + [s].length = kn := ⟨_, rfl⟩
            have HKN := hid hkn
            rw [hkn] at HO4 ⊢
            clear hkn
            by_cases hkk : kn ≤ 2000
            · have hkk2 : ¬ (2000 : Int) < (kn : Int) := by omega
              go_wp2_with fail
              go_roundw
              case rel => exact ⟨i + 1, kn, p4, c4, M ++ [s], rfl, by go_num, by omega, hkk, by rw [HMS.out, ← HM.out, HRW.out]; exact rfl, hid (by rw [List.length_append, HK.out]; exact HKN.out), HO4, HB4⟩
              case measure => simp [intOf]; omega
            · have hkk2 : (2000 : Int) < (kn : Int) := by omega
              have hno : jnP true a b = none := by
                refine jn_none ?_
                have h1 := HMO.out
                rw [HRW.out] at h1
                have := HKN.out
                omega
              have HNO := hid hno
              clear hno
              go_wp2_with fail
              go_ret2
              rw [HNO.out]
              exact ⟨none, 0, rfl, OwnL.nil _ _, HB4.out⟩
          | false =>
            have HRW : Hid (rowP false b s = []) := hid (by unfold rowP; rw [if_neg (by simp), HME.out])
            go_wp2_with (at_builtin; refine wp_keep ?_)
            refine hid ?_
            refine wpList_append_sols rfl _ _ rfl w.heap.size _ M rfl HO1.out _ ([] : List Sl) rfl HX.out.at (by rw [HK.out]; have := HLR.out; (try simp only [List.length_singleton]); (try simp only [List.length_nil]); omega) HB1.out.size ?_
            intro p4 c4 w4 ho4 hb4 _
            rw [HK.out] at ho4 ⊢
            have HO4 := hid ho4
            have HB4 := hid (HB1.out.trans hb4)
            clear ho4 hb4
            obtain ⟨kn, hkn⟩ : ∃ kn : Nat, k + ([] : List Sl).length = kn := ⟨_, rfl⟩
            have HKN := hid hkn
            rw [hkn] at HO4 ⊢
            clear hkn
            by_cases hkk : kn ≤ 2000
            · have hkk2 : ¬ (2000 : Int) < (kn : Int) := by omega
              go_wp2_with fail
              go_roundw
              case rel => exact ⟨i + 1, kn, p4, c4, M ++ ([] : List Sl), rfl, by go_num, by omega, hkk, by rw [HMS.out, ← HM.out, HRW.out]; exact rfl, hid (by rw [List.length_append, HK.out]; exact HKN.out), HO4, HB4⟩
              case measure => simp [intOf]; omega
            · have hkk2 : (2000 : Int) < (kn : Int) := by omega
              have hno : jnP false a b = none := by
                refine jn_none ?_
                have h1 := HMO.out
                rw [HRW.out] at h1
                have := HKN.out
                omega
              have HNO := hid hno
              clear hno
              go_wp2_with fail
              go_ret2
              rw [HNO.out]
              exact ⟨none, 0, rfl, OwnL.nil _ _, HB4.out⟩
        · have HRW : Hid (rowP stay b s = mts s b) := hid (by unfold rowP; rw [if_neg (fun h => hm0 (by rw [h.1]; rfl))])
          have hm2 : ¬ ((mts s b).length : Int) = 0 := by omega
          clear hml
          go_wp2_with (at_builtin; refine wp_keep ?_)
          refine hid ?_
          refine wpList_append_sols rfl _ _ rfl w.heap.size _ M rfl HO1.out _ (mts s b) rfl HX.out.at (by rw [HK.out]; have := HLR.out; (try simp only [List.length_singleton]); (try simp only [List.length_nil]); omega) HB1.out.size ?_
          intro p4 c4 w4 ho4 hb4 _
          rw [HK.out] at ho4 ⊢
          have HO4 := hid ho4
          have HB4 := hid (HB1.out.trans hb4)
          clear ho4 hb4
          obtain ⟨kn, hkn⟩ : ∃ kn : Nat, k + (mts s b).length = kn := ⟨_, rfl⟩
          have HKN := hid hkn
          rw [hkn] at HO4 ⊢
          clear hkn
          by_cases hkk : kn ≤ 2000
          · have hkk2 : ¬ (2000 : Int) < (kn : Int) := by omega
            go_wp2_with fail
            go_roundw
            case rel => exact ⟨i + 1, kn, p4, c4, M ++ (mts s b), rfl, by go_num, by omega, hkk, by rw [HMS.out, ← HM.out, HRW.out]; exact rfl, hid (by rw [List.length_append, HK.out]; exact HKN.out), HO4, HB4⟩
            case measure => simp [intOf]; omega
          · have hkk2 : (2000 : Int) < (kn : Int) := by omega
            have hno : jnP stay a b = none := by
              refine jn_none ?_
              have h1 := HMO.out
              rw [HRW.out] at h1
              have := HKN.out
              omega
            have HNO := hid hno
            clear hno
            go_wp2_with fail
            go_ret2
            rw [HNO.out]
            exact ⟨none, 0, rfl, OwnL.nil _ _, HB4.out⟩
      · have hm1 : meet1P s b lf = none := by unfold meet1P; rw [if_neg hml]
        rw [hm1] at HX ⊢
        simp only [Option.getD_none, Option.isSome_none, List.length_nil] at HX ⊢
        clear hm1
        have hno : jnP stay a b = none := by
          refine jn_none ?_
          have h1 := HMO.out
          have h2 : (mts s b).length ≤ (rowP stay b s).length := by unfold rowP; split <;> simp_all
          have := HLF.out
          omega
        have HNO := hid hno
        clear hno hml
        go_wp2_with (at_builtin; refine wp_keep ?_)
        refine hid ?_
        refine wpList_append_sols rfl _ _ rfl w.heap.size _ M rfl HO1.out _ [] rfl HX.out.at (by rw [HK.out]; simp; omega) HB1.out.size ?_
        intro p4 c4 w4 ho4 hb4 _
        have HB4 := hid (HB1.out.trans hb4)
        clear ho4 hb4
        go_wp2_with fail
        go_ret2
        rw [HNO.out]
        exact ⟨none, 0, rfl, OwnL.nil _ _, HB4.out⟩
    · have hlt2 : ¬ (i : Int) < (a.length : Int) := by omega
      rw [List.take_of_length_le (by omega)] at HM
      have hyes : jnP stay a b = some (srt textP M) := by
        rw [HM.out]; exact jn_some (by rw [← HM.out, HK.out]; exact hk)
      have HY := hid hyes
      clear hyes
      go_wp2_with fail
      refine (sort_any M _ wr (n + m) HO.out.at (by rw [HK.out]; omega) (by rw [HM.out]; exact all_ok OA.out OB.out) (by omega)).mono ?_
      rintro e1 w1 ⟨p2, c2, rfl, ho1, hb1⟩
      have HO1 := hid (ho1.base (B0 := w.heap.size) hsz)
      have HB1 := hid (HB.out.trans (hb1.mono hsz))
      clear ho1 hb1
      go_wp2_with fail
      go_ret2
      rw [HY.out]
      refine ⟨p2, c2, ?_, ?_, HB1.out⟩
      · simp only [Option.getD_some, srt_len]; rfl
      · simp only [Option.getD_some, srt_len]; exact HO1.out

set_option maxRecDepth 100000 in
theorem join_any (a b : List Sl) (va vb : Value) (w : World) (n m : Nat) (ha : SolsAt w va a) (hb : SolsAt w vb b) (oa : ∀ x ∈ a, OkS n x) (ob : ∀ x ∈ b, OkS m x) (hn : n + m ≤ 200) (hal : a.length ≤ 100000) (hbl : b.length ≤ 100000) :
    Calls Try.prog 13 #[va, vb] w (ResJ w.heap.size w (jnP false a b)) := by
  have HA := hid ha
  have HBB := hid hb
  have OA := hid oa
  have OB := hid ob
  clear ha hb oa ob
  go_enter Try.func13, Try.ntmps13
  go_wp2_with fail
  refine (joined_any false a b va vb w n m HA.out HBB.out OA.out OB.out hn hal hbl).mono ?_
  rintro e1 w1 ⟨p, c, rfl, h1, h2⟩
  have HH := hid (And.intro h1 h2)
  obtain ⟨er, her⟩ : ∃ er : Int, (if (jnP false a b).isSome then (0 : Int) else 4) = er := ⟨_, rfl⟩
  rw [her]
  have HER := hid her
  clear h1 h2 her
  go_wp2_with fail
  go_ret2
  exact ⟨p, c, by rw [HER.out]; rfl, HH.out.1, HH.out.2⟩
set_option maxRecDepth 100000 in
theorem left_any (a b : List Sl) (va vb : Value) (w : World) (n m : Nat) (ha : SolsAt w va a) (hb : SolsAt w vb b) (oa : ∀ x ∈ a, OkS n x) (ob : ∀ x ∈ b, OkS m x) (hn : n + m ≤ 200) (hal : a.length ≤ 100000) (hbl : b.length ≤ 100000) :
    Calls Try.prog 24 #[va, vb] w (ResJ w.heap.size w (jnP true a b)) := by
  have HA := hid ha
  have HBB := hid hb
  have OA := hid oa
  have OB := hid ob
  clear ha hb oa ob
  go_enter Try.func24, Try.ntmps24
  go_wp2_with fail
  refine (joined_any true a b va vb w n m HA.out HBB.out OA.out OB.out hn hal hbl).mono ?_
  rintro e1 w1 ⟨p, c, rfl, h1, h2⟩
  have HH := hid (And.intro h1 h2)
  obtain ⟨er, her⟩ : ∃ er : Int, (if (jnP true a b).isSome then (0 : Int) else 4) = er := ⟨_, rfl⟩
  rw [her]
  have HER := hid her
  clear h1 h2 her
  go_wp2_with fail
  go_ret2
  exact ⟨p, c, by rw [HER.out]; rfl, HH.out.1, HH.out.2⟩
end Go.Proofs.Ytkhdadbbgfjcgaa
