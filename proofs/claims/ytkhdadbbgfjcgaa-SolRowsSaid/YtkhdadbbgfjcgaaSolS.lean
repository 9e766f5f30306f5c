/- sol.Set, sol.Meet. -/
import Derived.Test.YtkhdadbbgfjcgaaSolI
namespace Go.Proofs.Ytkhdadbbgfjcgaa
open Go.RowKit
set_option linter.unusedVariables false

theorem OwnP.new {B0 : Nat} {w w' : World} {v : Value} {s : Sl} (h : OwnP B0 w v s) (hb : Below w.heap.size w w') : OwnP B0 w' v s := by
  refine ⟨h.1, ?_⟩
  rcases h.2 with h2 | ⟨g, cap, cur, h1, h2, h3, h4⟩
  · exact .inl h2
  · exact .inr ⟨g, cap, cur, h1, h2, (Chg.new hb NoFp).heap h3 (fun h => h), h4⟩
theorem OwnP.base {B0 B1 : Nat} {w : World} {v : Value} {s : Sl} (h : OwnP B1 w v s) (hb : B0 ≤ B1) : OwnP B0 w v s := by
  refine ⟨h.1, ?_⟩
  rcases h.2 with h2 | ⟨g, cap, cur, h1, h2, h3⟩
  · exact .inl h2
  · exact .inr ⟨g, cap, cur, h1, Nat.le_trans hb h2, h3⟩

/-- a slice of pairs, and whether there is one -/
def Res (B0 : Nat) (w : World) (o : Option Sl) (e : Ending) (w' : World) : Prop :=
  ∃ p c, e = .returned (.tuple #[.slice p (o.getD []).length c, .bool o.isSome]) ∧ OwnP B0 w' (.slice p (o.getD []).length c) (o.getD []) ∧ Below B0 w w'

theorem eq_t {w : World} {a b : T4} (oa : OkT a) (ob : OkT b) : (binOp .neq TT (.agg #[.int .i64 a.1, .string (B a.2.1), .string (B a.2.2.1), .string (B a.2.2.2)]) (.agg #[.int .i64 b.1, .string (B b.2.1), .string (B b.2.2.1), .string (B b.2.2.2)])).run Try.prog w = .ok (.bool (!(a == b))) w := run_t_neq oa ob
theorem guard_t (x y : Operand) (a b : Array Value) (w : World) : (eqGuard .neq TT x y (.agg a) (.agg b)).run Try.prog w = .ok () w := t_guard .neq (.inl rfl) x y a b w

set_option maxRecDepth 100000 in
set_option maxHeartbeats 2000000 in
theorem set_any (s : Sl) (v0 : Value) (v : List UInt8) (t : T4) (w : World) (n : Nat) (hs : SolAt w v0 s) (ho : OkS n s) (hn : n ≤ 400) (ht : OkT t) :
    Calls Try.prog 19 #[v0, .string (B v), tv t] w (Res w.heap.size w (setP s v t)) := by
  obtain ⟨p, c, rfl⟩ := hs.shape
  have hsl := ho.len
  have HS := hid hs
  have HA := hid ho
  have HT := hid ht
  clear hs ho ht
  go_enter Try.func19, Try.ntmps19
  go_wp2_with fail
  have hz := heap_alloc_new w (Obj.cells (tc t).toArray TT)
  have hzb := (Below.refl w.heap.size w).alloc (Nat.le_refl _) (Obj.cells (tc t).toArray TT)
  have hS0 := HS.out.new hzb
  generalize w.alloc (Obj.cells (tc t).toArray TT) = w0 at hz hzb hS0 ⊢
  have hlt : w.heap.size < w0.heap.size := (Array.getElem?_eq_some_iff.1 hz).1
  refine (place_any s _ v w0 hS0 HA.out.asc (by omega)).mono ?_; rintro e1 w1 ⟨rfl, hb1⟩
  have hz1 : Blk w1 w.heap.size [.int .i64 t.1, .string (B t.2.1), .string (B t.2.2.1), .string (B t.2.2.2)] TT := Blk.chg (fp := NoFp) hz (Chg.new hb1 NoFp) (fun h => h)
  have HB := hid (hzb.trans (hb1.mono (Nat.le_of_lt hlt)))
  have HS1 := hid (hS0.new hb1)
  have hlt1 : w.heap.size < w1.heap.size := hz1.lt
  obtain ⟨k0, k1, k2, k3, _, _, _, _⟩ := blk4 hz1
  have HZ := hid hz1
  clear hz hzb hS0 hb1 hz1 HS
  cases hh : hitB s v
  case true =>
    obtain ⟨hr, he⟩ := hitB_iff.1 hh
    obtain ⟨b, off, rfl, c0, c1, c2, c3, c4⟩ := HS1.out.at hr
    have hr2 : (rk s v : Int) < (s.length : Int) := by omega
    have hok : OkT (s[rk s v]).2 := (HA.out.ok _ (List.getElem_mem hr)).2
    have heq := fun w => eq_t (w := w) hok HT.out
    have hgd := guard_t
    have H1 := fun h2 => setP_same (t := t) hr he h2
    have H2 := fun h2 => setP_other (t := t) hr he h2
    have HH1 := hid H1
    have HH2 := hid H2
    clear hh he H1 H2 hok
    generalize rk s v = k at *
    by_cases h2 : (s[k]).2 = t
    · have h3 : ((s[k]).2 == t) = true := by rw [beq_iff_eq]; exact h2
      have H2 := hid h2
      clear h2
      go_wp2_with fail
      go_still_tail 8, (by kernel_rfl)
      go_wp2_with fail
      have hs2 : SolAt w1.drew (.slice (some ⟨b, off, none⟩) s.length c) s := HS1.out
      refine (cloneP_any s _ w1.drew hs2 (by omega)).mono ?_; rintro e2 w2 ⟨p2, c2, rfl, ho2, hb2⟩
      have HO2 := hid ho2
      have HB2 := hid hb2
      clear ho2 hb2 hs2
      go_wp2_with fail
      refine (cloneP_any s _ w2 HO2.out.sol (by omega)).mono ?_; rintro e3 w3 ⟨p3, c3, rfl, ho3, hb3⟩
      have HO3 := hid ho3
      have HB3 := hid hb3
      clear ho3 hb3
      have hsz2 : w.heap.size ≤ w2.heap.size := by have := HB2.out.size; simp at this; omega
      go_wp2_with fail
      go_ret2
      rw [HH1.out H2.out]
      exact ⟨p3, c3, rfl, HO3.out.base hsz2, (HB.out.drew.trans (HB2.out.mono (by simpa using Nat.le_of_lt hlt1))).trans (HB3.out.mono hsz2)⟩
    · have h3 : ((s[k]).2 == t) = false := by rw [beq_eq_false_iff_ne]; exact h2
      have H2 := hid h2
      clear h2
      go_wp2_with fail
      go_still_tail 8, (by kernel_rfl)
      go_wp2_with fail
      go_ret2
      rw [HH2.out H2.out]
      exact ⟨none, 0, rfl, World.ownsRow_nil _ _ _ _, HB.out.drew⟩
  case false =>
    have hset := setP_new (s := s) (v := v) (t := t) (fun hr he => by rw [hitB_iff.2 ⟨hr, he⟩] at hh; cases hh)
    have hkl := rk_le s v
    have HSET := hid hset
    clear hh hset
    generalize rk s v = k at *
    go_wp2_with fail
    go_still_tail 8, (by kernel_rfl)
    go_wp2_with fail
    have hs2 : SolAt w1.drew (.slice p s.length c) s := HS1.out
    refine (cloneP_any s _ w1.drew hs2 (by omega)).mono ?_; rintro e2 w2 ⟨p2, c2, rfl, ho2, hb2⟩
    have hsz2 : w1.heap.size ≤ w2.heap.size := by have := hb2.size; simpa using this
    have hz2 : Blk w2 w.heap.size [.int .i64 t.1, .string (B t.2.1), .string (B t.2.2.1), .string (B t.2.2.2)] TT := Blk.chg (fp := NoFp) (show Blk w1.drew w.heap.size _ TT from HZ.out) (Chg.new hb2 NoFp) (fun h => h)
    obtain ⟨m0, m1, m2, m3, _, _, _, _⟩ := blk4 hz2
    have HO2 := hid ho2
    have HB2 := hid hb2
    clear ho2 hb2 hs2 hz2
    go_wp2_with fail
    have ho2 : OwnP w.heap.size w2 (.slice p2 s.length c2) s := HO2.out.base (Nat.le_of_lt (by simpa using hlt1))
    have hx3 : Blk (w2.alloc (Obj.cells (pc (v, t)).toArray TP)) w2.heap.size (pc (v, t)) TP := heap_alloc_new w2 _
    have hb3 := (Below.refl w2.heap.size w2).alloc (Nat.le_refl _) (Obj.cells (pc (v, t)).toArray TP)
    have hb3' : Below w2.heap.size w2 (w2.alloc (Obj.cells #[Value.string (B v), Value.int IntKind.i64 t.fst, Value.string (B t.snd.fst), Value.string (B t.snd.snd.fst), Value.string (B t.snd.snd.snd)] TP)) := hb3
    have hx3' : Blk (w2.alloc (Obj.cells #[Value.string (B v), Value.int IntKind.i64 t.fst, Value.string (B t.snd.fst), Value.string (B t.snd.snd.fst), Value.string (B t.snd.snd.snd)] TP)) w2.heap.size (pc (v, t)) TP := hx3
    clear hx3 hb3
    generalize w2.alloc (Obj.cells #[Value.string (B v), Value.int IntKind.i64 t.fst, Value.string (B t.snd.fst), Value.string (B t.snd.snd.fst), Value.string (B t.snd.snd.snd)] TP) = w3 at hx3' hb3' ⊢
    have hsz3 := hb3'.size
    refine (insertP_any s (v, t) k w.heap.size w2.heap.size _ w3 hkl (ho2.new hb3') hx3' (fun h => by have := (ho2.lt _ h).2; omega) (by omega) (by omega)).mono ?_; rintro e4 w4 ⟨p4, c4, rfl, ho4, hb4⟩
    have hln : (s.take k ++ (v, t) :: s.drop k).length = s.length + 1 := by simp; omega
    have hb5 := ((HB.out.drew.trans (HB2.out.mono (by simpa using Nat.le_of_lt hlt1))).trans (hb3'.mono (by omega))).trans hb4
    have HO4 := hid ho4
    have HB5 := hid hb5
    clear ho4 hb4 hb5 hx3' hb3' ho2 m0 m1 m2 m3
    go_wp2_with fail
    refine (cloneP_any (s.take k ++ (v, t) :: s.drop k) _ w4 HO4.out.sol (by omega)).mono ?_; rintro e5 w5 ⟨p5, c5, rfl, ho5, hb6⟩
    have HO6 := hid ho5
    have HB6 := hid hb6
    clear ho5 hb6
    have hsz6 := HB5.out.size
    go_wp2_with fail
    go_ret2
    rw [HSET.out]
    refine ⟨p5, c5, ?_, HO6.out.base hsz6, HB5.out.trans (HB6.out.mono hsz6)⟩
    show Ending.returned (.tuple #[.slice p5 (s.length + 1) c5, .bool true]) = .returned (.tuple #[.slice p5 (s.take k ++ (v, t) :: s.drop k).length c5, .bool true])
    rw [hln]

theorem meetP_none {a : Sl} {p : Pr} {b : Sl} (h : setP a p.1 p.2 = none) : meetP a (p :: b) = none := by simp [meetP, h]
theorem meetP_some {a x : Sl} {p : Pr} {b : Sl} (h : setP a p.1 p.2 = some x) : meetP a (p :: b) = meetP x b := by simp [meetP, h]

end Go.Proofs.Ytkhdadbbgfjcgaa
