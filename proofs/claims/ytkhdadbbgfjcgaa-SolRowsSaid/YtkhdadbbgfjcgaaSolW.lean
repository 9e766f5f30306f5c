/- package sol: where a variable stands. -/
import Derived.Test.YtkhdadbbgfjcgaaSolF
import Derived.Laws.Rows
namespace Go.Proofs.Ytkhdadbbgfjcgaa
open Go.RowKit
set_option linter.unusedVariables false

theorem SolAt.at {w : World} {p : Option Addr} {n c : Nat} {s : Sl} (h : SolAt w (.slice p n c) s) {i : Nat} (hi : i < s.length) :
    ∃ b off, p = some ⟨b, off, none⟩ ∧ w.cell? ⟨b, off + i * 5, none⟩ = some (.string (B (s[i]).1)) ∧ w.cell? ⟨b, off + i * 5 + 1, none⟩ = some (.int .i64 (s[i]).2.1) ∧ w.cell? ⟨b, off + i * 5 + 2, none⟩ = some (.string (B (s[i]).2.2.1)) ∧
      w.cell? ⟨b, off + i * 5 + 3, none⟩ = some (.string (B (s[i]).2.2.2.1)) ∧ w.cell? ⟨b, off + i * 5 + 4, none⟩ = some (.string (B (s[i]).2.2.2.2)) := by
  obtain ⟨b, off, rfl, hc⟩ := h.cells (by omega)
  exact ⟨b, off, rfl, hc i hi 0 _ rfl, hc i hi 1 _ rfl, hc i hi 2 _ rfl, hc i hi 3 _ rfl, hc i hi 4 _ rfl⟩

theorem compare_any (a b : List UInt8) (w : World) : Calls Try.prog 32 #[.string (B a), .string (B b)] w fun e w' => e = .returned (.int .i64 (Lib.compareBytes a b)) ∧ w = w' :=
  (Try.strings_Compare (B a) (B b) w).mono fun e w' h => ⟨h.1, h.2.symm⟩

set_option maxRecDepth 100000 in
theorem placeFn_any (p : Pr) (v : List UInt8) (w : World) : Calls Try.prog 58 #[pv p, .string (B v)] w fun e w' => e = .returned (.int .i64 (Lib.compareBytes p.1 v)) ∧ Below w.heap.size w w' := by
  go_enter Try.func58, Try.ntmps58
  have hb : Hid (Below w.heap.size w (w.alloc (Obj.cells (pc p).toArray TP))) := hid ((Below.refl _ _).alloc (Nat.le_refl _) _)
  have h0 : (w.alloc (Obj.cells (pc p).toArray TP)).cell? ⟨w.heap.size, 0, none⟩ = some (.string (B p.1)) := (show Blk _ _ (pc p) TP from heap_alloc_new w _).cell 0
  go_wp2_with fail
  refine (compare_any p.1 v _).mono ?_; rintro e1 w1 ⟨rfl, hw⟩; subst hw
  go_wp2_with fail
  go_ret
  exact ⟨rfl, hb.out⟩

set_option maxRecDepth 100000 in
set_option maxHeartbeats 1600000 in
theorem search_any (s : Sl) (v0 : Value) (v : List UInt8) (w : World) (hs : SolAt w v0 s) (ha : Asc s) (hl : s.length ≤ 100000) :
    Calls Try.prog 57 #[v0, .string (B v), .func (.func 58) #[] #[]] w fun e w' => e = .returned (.tuple #[.int .i64 (rk s v : Int), .bool (hitB s v)]) ∧ Below w.heap.size w w' := by
  obtain ⟨p, c, rfl⟩ := hs.shape
  have HS := hid hs
  have HA := hid ha
  clear hs ha
  go_enter Try.func57, Try.ntmps57
  go_wp2_with fail
  go_loopw [9, 10] (fun vi vj wr => ∃ i j : Nat, vi = .int .i64 i ∧ vj = .int .i64 j ∧ i ≤ j ∧ j ≤ s.length ∧ Hid (∀ x (hx : x < s.length), x < i → ltB (s[x]).1 v = true) ∧ Hid (∀ x (hx : x < s.length), j ≤ x → ltB (s[x]).1 v = false) ∧ Hid (Below w.heap.size w wr)) (fun vi vj _ => (intOf vj - intOf vi).toNat)
  case atStart => exact ⟨0, s.length, rfl, rfl, Nat.zero_le _, Nat.le_refl _, hid (fun x _ h => by omega), hid (fun x hx h => by omega), hid (Below.refl _ _)⟩
  case round =>
    obtain ⟨i, j, rfl, rfl, hij, hjl, h1, h2, h3⟩ := hrel
    by_cases hlt : i < j
    · obtain ⟨m, hm, him, hmj⟩ : ∃ m : Nat, ((i : Int) + (j : Int)) / 2 = (m : Int) ∧ i ≤ m ∧ m < j := ⟨(i + j) / 2, by omega, by omega, by omega⟩
      have hms : m < s.length := by omega
      obtain ⟨b, off, rfl, c0, c1, c2, c3, c4⟩ := (HS.out.new (h3.out)).at hms
      have hcl := cmp_lt (s[m]).1 v
      by_cases hc : ltB (s[m]).1 v = true
      · have hneg : Lib.compareBytes (s[m]).1 v < 0 := hcl.2 hc
        have HC := hid hc
        clear hcl hc
        go_wp2_with fail
        refine (placeFn_any s[m] v wr).mono ?_; rintro e1 w1 ⟨rfl, hb1⟩
        have HB := hid hb1
        clear hb1
        go_wp2_with fail
        go_roundw
        case rel => exact ⟨m + 1, j, by go_num, rfl, by omega, hjl, hid (fun x hx h => by
          rcases Nat.lt_or_ge x (m + 1) with _ | _
          · rcases Nat.lt_or_ge m x with hh | hh
            · omega
            · rcases Nat.lt_or_ge x m with h' | h'
              · exact ltB_trans (HA.out.lt hms h') HC.out
              · have : x = m := by omega
                subst this; exact HC.out
          · omega), h2, hid (h3.out.trans (HB.out.mono h3.out.size))⟩
        case measure => simp [intOf]; omega
      · have hneg : ¬ Lib.compareBytes (s[m]).1 v < 0 := fun h => hc (hcl.1 h)
        have HC := hid hc
        clear hcl hc
        go_wp2_with fail
        refine (placeFn_any s[m] v wr).mono ?_; rintro e1 w1 ⟨rfl, hb1⟩
        have HB := hid hb1
        clear hb1
        go_wp2_with fail
        go_roundw
        case rel => exact ⟨i, m, rfl, by go_num, by omega, by omega, h1, hid (fun x hx h => by
          rcases Nat.lt_or_ge m x with hh | hh
          · cases hv : ltB (s[x]).1 v with
            | false => rfl
            | true => exact absurd (ltB_trans (HA.out.lt hx hh) hv) HC.out
          · have : x = m := by omega
            subst this; simpa using HC.out), hid (h3.out.trans (HB.out.mono h3.out.size))⟩
        case measure => simp [intOf]; omega
    · have hij2 : i = j := by omega
      subst hij2
      have hrk : rk s v = i := rk_of hjl h1.out (fun hi => h2.out i hi (Nat.le_refl _))
      by_cases hin : i < s.length
      · have hin2 : (i : Int) < (s.length : Int) := by omega
        obtain ⟨b, off, rfl, c0, c1, c2, c3, c4⟩ := (HS.out.new (h3.out)).at hin
        have hce := cmp_eq (s[i]).1 v
        have hhit : hitB s v = (Lib.compareBytes (s[i]).1 v == 0) := by
          unfold hitB
          rw [hrk, List.getElem?_eq_getElem hin]
          rw [Bool.eq_iff_iff]
          simp [hce]
        have HR := hid hrk
        have HH := hid hhit
        clear hce hrk hhit
        go_wp2_with fail
        refine (placeFn_any s[i] v wr).mono ?_; rintro e1 w1 ⟨rfl, hb1⟩
        have HB := hid hb1
        clear hb1
        go_wp2_with fail
        go_ret2
        rw [HR.out, HH.out]
        exact ⟨rfl, h3.out.trans (HB.out.mono h3.out.size)⟩
      · have hin2 : ¬ (i : Int) < (s.length : Int) := by omega
        have hhit : hitB s v = false := by
          unfold hitB
          rw [hrk, List.getElem?_eq_none (by omega)]
        have HR := hid hrk
        have HH := hid hhit
        clear hrk hhit
        go_wp2_with fail
        go_ret2
        rw [HR.out, HH.out]
        exact ⟨rfl, h3.out⟩

set_option maxRecDepth 100000 in
theorem place_any (s : Sl) (v0 : Value) (v : List UInt8) (w : World) (hs : SolAt w v0 s) (ha : Asc s) (hl : s.length ≤ 100000) :
    Calls Try.prog 38 #[v0, .string (B v)] w fun e w' => e = .returned (.tuple #[.int .i64 (rk s v : Int), .bool (hitB s v)]) ∧ Below w.heap.size w w' := by
  have HS := hid hs
  have HA := hid ha
  clear hs ha
  go_enter Try.func38, Try.ntmps38
  go_wp2_with fail
  refine (search_any s v0 v w HS.out HA.out hl).mono ?_; rintro e1 w1 ⟨rfl, hb1⟩
  have HB := hid hb1
  clear hb1
  go_wp2_with fail
  go_ret2
  exact ⟨rfl, HB.out⟩

abbrev Z4 : Obj := Obj.cells #[.int .i64 0, .string ⟨#[]⟩, .string ⟨#[]⟩, .string ⟨#[]⟩] TT
theorem blk4 {w : World} {g : Nat} {x0 x1 x2 x3 : Value} {T : TypeId} (h : Blk w g [x0, x1, x2, x3] T) :
    w.cell? ⟨g, 0, none⟩ = some x0 ∧ w.cell? ⟨g, 1, none⟩ = some x1 ∧ w.cell? ⟨g, 2, none⟩ = some x2 ∧ w.cell? ⟨g, 3, none⟩ = some x3 ∧
    w.frozen? ⟨g, 0, none⟩ = false ∧ w.frozen? ⟨g, 1, none⟩ = false ∧ w.frozen? ⟨g, 2, none⟩ = false ∧ w.frozen? ⟨g, 3, none⟩ = false := by
  refine ⟨?_, ?_, ?_, ?_, h.frozen 0, h.frozen 1, h.frozen 2, h.frozen 3⟩ <;> rw [h.cell] <;> rfl

theorem results_row_tmp {P : Program} {fn : Func} {p u : Tmp} {ty : TypeId} (h : fn.results = #[.cell p ty, .tmp u]) (tmps : Array Value) (w : World) (g : Nat) (t : TypeId) (cs : Array Value) (fr : Nat × Nat) (d : TypeDesc)
    (hp : tmps.getD p undef = .pointer (some ⟨g, 0, none⟩)) (hg : w.heap[g]? = some (.cells cs t fr))
    (hu : P.underlying ty = some d) (hd : (match d with | .struct _ | .array _ _ => true | _ => false) = true) (hi : (P.info? ty).map (·.size) = some cs.size) :
    (results fn tmps).run P w = .ok (.tuple #[.agg cs, tmps.getD u undef]) w := by
  have hp' : tmps[p]?.getD undef = .pointer (some ⟨g, 0, none⟩) := by simpa using hp
  simp [results, h, hp', asAddr, run_loadVar_row w g t ty cs fr d hg hu hd hi]
theorem set4 {w : World} {g : Nat} {x0 x1 x2 x3 : Value} {T : TypeId} (h : Blk w g [x0, x1, x2, x3] T) (t : T4) :
    Blk ((((w.setCell ⟨g, 0, none⟩ (.int .i64 t.1)).setCell ⟨g, 1, none⟩ (.string (B t.2.1))).setCell ⟨g, 2, none⟩ (.string (B t.2.2.1))).setCell ⟨g, 3, none⟩ (.string (B t.2.2.2))) g (tc t) T :=
  (((h.set 0 _).set 1 _).set 2 _).set 3 _

/-- what Get hands back -/
def getT (s : Sl) (v : List UInt8) : T4 := (getP s v).getD (0, [], [], [])
set_option maxRecDepth 100000 in
set_option maxHeartbeats 1600000 in
theorem get_any (s : Sl) (v0 : Value) (v : List UInt8) (w : World) (hs : SolAt w v0 s) (ha : Asc s) (hl : s.length ≤ 100000) :
    Calls Try.prog 21 #[v0, .string (B v)] w fun e w' => e = .returned (.tuple #[tv (getT s v), .bool (getP s v).isSome]) ∧ Below w.heap.size w w' := by
  obtain ⟨p, c, rfl⟩ := hs.shape
  have HS := hid hs
  have HA := hid ha
  clear hs ha
  go_enter Try.func21, Try.ntmps21
  go_wp2_with fail
  have hz := heap_alloc_new w Z4
  have hzb := (Below.refl w.heap.size w).alloc (Nat.le_refl _) Z4
  have hS0 := HS.out.new hzb
  unfold Z4 at hz hzb hS0
  generalize w.alloc (Obj.cells #[.int .i64 0, .string ⟨#[]⟩, .string ⟨#[]⟩, .string ⟨#[]⟩] TT) = w0 at hz hzb hS0 ⊢
  have hlt : w.heap.size < w0.heap.size := (Array.getElem?_eq_some_iff.1 hz).1
  refine (place_any s _ v w0 hS0 HA.out hl).mono ?_; rintro e1 w1 ⟨rfl, hb1⟩
  have hz1 : Blk w1 w.heap.size [.int .i64 0, .string ⟨#[]⟩, .string ⟨#[]⟩, .string ⟨#[]⟩] TT := Blk.chg (fp := NoFp) hz (Chg.new hb1 NoFp) (fun h => h)
  have HB := hid (hzb.trans (hb1.mono (Nat.le_of_lt hlt)))
  have HS1 := hid (hS0.new hb1)
  obtain ⟨k0, k1, k2, k3, f0, f1, f2, f3⟩ := blk4 hz1
  have HZ := hid hz1
  clear hz hzb hS0 hb1 hz1 HS
  have hg := getP_rk (v := v) HA.out
  cases hh : hitB s v
  case true =>
    obtain ⟨hr, he⟩ := hitB_iff.1 hh
    rw [dif_pos hr, if_pos he] at hg
    have HG := hid hg
    obtain ⟨b, off, rfl, c0, c1, c2, c3, c4⟩ := HS1.out.at hr
    have hr2 : (rk s v : Int) < (s.length : Int) := by omega
    clear hg hh he
    generalize rk s v = k at *
    go_wp2_with fail
    have hfin := set4 HZ.out (s[k]).2
    refine bodyPost_ret (results_row_tmp rfl _ _ w.heap.size TT _ (0, 0) _ rfl hfin Try.underlying36 rfl (by kernel_rfl)) rfl ?_
    refine ⟨?_, (((HB.out.setCell (Nat.le_refl _) _).setCell (Nat.le_refl _) _).setCell (Nat.le_refl _) _).setCell (Nat.le_refl _) _⟩
    unfold getT
    rw [HG.out]
    rfl
  case false =>
    have hg2 : getP s v = none := by
      rw [hg]
      by_cases hr : rk s v < s.length
      · rw [dif_pos hr, if_neg]
        intro he
        rw [hitB_iff.2 ⟨hr, he⟩] at hh; cases hh
      · rw [dif_neg hr]
    have HG := hid hg2
    clear hg hg2 hh
    go_wp2_with fail
    have hfin := set4 HZ.out (0, [], [], [])
    refine bodyPost_ret (results_row_tmp rfl _ _ w.heap.size TT _ (0, 0) _ rfl hfin Try.underlying36 rfl (by kernel_rfl)) rfl ?_
    refine ⟨?_, (((HB.out.setCell (Nat.le_refl _) _).setCell (Nat.le_refl _) _).setCell (Nat.le_refl _) _).setCell (Nat.le_refl _) _⟩
    unfold getT
    rw [HG.out]
    rfl
end Go.Proofs.Ytkhdadbbgfjcgaa
