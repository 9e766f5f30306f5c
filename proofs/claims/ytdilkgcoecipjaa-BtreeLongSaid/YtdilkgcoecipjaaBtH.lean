/- btree: walk, Count. -/
import Derived.Test.YtdilkgcoecipjaaBtG
import Derived.Test.YtdilkgcoecipjaaBtC
namespace Go.Proofs.Ytdilkgcoecipjaa
open Go.RowKit Go.Maps
set_option linter.unusedVariables false

/-- what walks ask of a tree -/
structure TrOk (d : Nat) (t : Tr d) (Nf : Nat → Option Nd) : Prop where
  on : On Nf d t
  asc : Asc (toks d t)
  fit : Fit d t
  nodup : (pgs d t).Nodup
  few : (ents (toks d t)).length ≤ 1000
theorem TrOk.pages {d : Nat} {t : Tr d} {Nf : Nat → Option Nd} (h : TrOk d t Nf) : (pgs d t).length ≤ 2001 := by
  have := (fit_count h.fit).1
  have := h.few
  omega
theorem rng_le (l : List En) (f t : Tx) : (rngM l f t).length ≤ l.length := List.length_filter_le _ _

set_option maxRecDepth 100000 in
set_option maxHeartbeats 2000000 in
theorem walk_any (w : World) (p dd : Nat) (F : Nat → Prop) (n : Nat) (s : DS) (S T : AS) (op : Bool) (N : Nat) (Nf : Nat → Option Nd) (d : Nat) (t : Tr d) (fr to : Tx) (most : Nat) (hVw : Vw T Nf) (hpg : PgV w p dd F n s S T op N) (ht : TrOk d t Nf) (hm : most ≤ 4611686018427387904) :
    Calls Try.prog 29 #[.pointer (some ⟨p, 0, none⟩), .int .i64 (atT d t : Int), .string (B fr), .string (B to), .int .i64 (most : Int)] w fun e w' => ∃ g G us es more, e = .returned (.tuple #[.pointer (some ⟨g, 0, none⟩), .int .i64 0]) ∧ PageP d t [] es us fr to most more ∧ Wk w.heap.size w' G g p fr to most us es ∧ Below w.heap.size w w' := by
  have HVW := hid hVw
  have HPG := hid hpg
  have HT := hid ht
  have hF := hpg.lt
  have HF := hid hF
  have hmm := @run_makeMap Try.prog
  clear hVw hpg ht hF
  go_enter Try.func29, Try.ntmps29
  go_wp2_with fail
  obtain ⟨w1, hw1⟩ : ∃ x, w.alloc (Obj.map #[] 0) = x := ⟨_, rfl⟩
  obtain ⟨w2, hw2⟩ : ∃ x, w1.alloc (.cells #[.pointer (some ⟨p, 0, none⟩), .string (B fr), .string (B to), .int .i64 (most : Int), .map (some w.heap.size), .slice none 0 0, .slice none 0 0, .slice none 0 0] 71) = x := ⟨_, rfl⟩
  have hb1 : Below w.heap.size w w1 := by rw [← hw1]; exact (Below.refl _ _).alloc (Nat.le_refl _) _
  have hs1 : w1.heap.size = w.heap.size + 1 := by rw [← hw1]; simp
  have hb2 : Below w1.heap.size w1 w2 := by rw [← hw2]; exact (Below.refl _ _).alloc (Nat.le_refl _) _
  have hs2 : w2.heap.size = w.heap.size + 2 := by rw [← hw2]; simp; omega
  have hwk : Wk w.heap.size w2 (fun k => w.heap.size ≤ k ∧ k < w2.heap.size) (w.heap.size + 1) p fr to most [] [] := by
    refine ⟨w.heap.size, none, 0, none, 0, none, 0, .map [], ?_, ?_, Seen.nil, World.ownsRow_nil _ _ _ _, World.ownsRow_nil _ _ _ _, World.ownsRow_nil _ _ _ _, fun g h => (by cases h), ⟨⟨by omega, by omega⟩, ⟨by omega, by omega⟩, fun k h => (by cases h), fun k h => (by cases h), fun k h => (by cases h)⟩, fun k h => h⟩
    · rw [← hw2, ← hs1]; exact heap_alloc_new _ _
    · refine map_chg (w := w1) ?_ (Chg.new hb2 NoFp) (fun h => h)
      rw [← hw1]; exact World.ownsMap_made _ _ _ _
  have HB2 := hid (hb1.trans (hb2.mono (by omega)))
  have HWK := hid hwk
  rw [hw1, hw2]
  clear hw1 hw2 hb1 hb2 hwk
  have hfew := HT.out.few
  have hpgs := HT.out.pages
  refine (page_any w.heap.size (w.heap.size + 1) p fr to most Nf dd F n s S T op N HVW.out HF.out d w2 _ [] [] t ⟨HWK.out, HT.out.on, HT.out.asc, HT.out.fit, fun k _ h => (by cases h), HT.out.nodup, Nat.zero_le _, hm, by simp; omega, by simp; omega⟩ (HPG.out.new' HB2.out)).mono ?_
  rintro e3 w3 ⟨more, us, es, G', rfl, hP, hwk3, hc3, hg3⟩
  have HP := hid hP
  have HW3 := hid hwk3
  have HB3 := hid (HB2.out.trans (hc3.below (B := w.heap.size) (fun k hk => hk.1) (by omega)))
  clear hP hwk3 hc3 hg3
  go_wp2_with fail
  go_ret2
  exact ⟨w.heap.size + 1, G', us, es, more, rfl, HP.out, HW3.out, HB3.out⟩

set_option maxRecDepth 100000 in
theorem count_any' (w : World) (p dd : Nat) (F : Nat → Prop) (n : Nat) (s : DS) (S T : AS) (op : Bool) (N : Nat) (Nf : Nat → Option Nd) (d : Nat) (t : Tr d) (hVw : Vw T Nf) (hpg : PgV w p dd F n s S T op N) (ht : TrOk d t Nf) :
    Calls Try.prog 11 #[.pointer (some ⟨p, 0, none⟩), .int .i64 (atT d t : Int)] w fun e w' => e = .returned (.tuple #[.int .i64 ((ents (toks d t)).length : Int), .int .i64 0]) ∧ Below w.heap.size w w' := by
  have HW := hid (walk_any w p dd F n s S T op N Nf d t [] [] 2147483647 hVw hpg ht (by omega))
  have hfew := ht.few
  clear hVw hpg ht
  go_enter Try.func11, Try.ntmps11
  go_wp2_with fail
  refine HW.out.mono ?_
  rintro e1 w1 ⟨g, G, us, es, more, rfl, hP, hwk, hb⟩
  obtain ⟨mp, pp, cp, pk, ck, pv, cv, D, hw⟩ := hwk
  obtain ⟨y0, y1, y2, y3, y4, y5, y6, y7, z6, z7⟩ := wk_cells hw.blk
  have hes : es = ents (toks d t) := by
    have h1 := hP.1.1
    rw [rngM_all, List.nil_append, List.take_of_length_le (by omega)] at h1
    exact h1
  have HB := hid hb
  clear hw hP hb
  rw [hes] at y6
  go_wp2_with fail
  go_ret2
  exact ⟨rfl, HB.out⟩
end Go.Proofs.Ytdilkgcoecipjaa
