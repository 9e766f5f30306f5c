/- solutions as texts. -/
import Derived.Test.YtkhdadbbgfjcgaaSolX
namespace Go.Proofs.Ytkhdadbbgfjcgaa
open Go.RowKit
set_option linter.unusedVariables false

def pairP (p : Pr) : List UInt8 := 63 :: (p.1 ++ 32 :: (termP p.2 ++ [32]))
def textP (s : Sl) : List UInt8 := s.flatMap pairP
theorem pairP_len {p : Pr} (h : p.1.length ≤ 100 ∧ OkT p.2) : (pairP p).length ≤ 700 := by
  have h1 := termP_len h.2
  have h2 := h.1
  unfold pairP
  simp only [List.length_append, List.length_cons, List.length_nil]; omega
theorem textP_len : ∀ {s : Sl}, (∀ p ∈ s, p.1.length ≤ 100 ∧ OkT p.2) → (textP s).length ≤ 700 * s.length
  | [], _ => by simp [textP]
  | p :: s, h => by
    have h1 := pairP_len (h p (List.mem_cons_self ..))
    have h2 := textP_len (s := s) (fun q hq => h q (List.mem_cons_of_mem _ hq))
    unfold textP at h2 ⊢
    simp only [List.flatMap_cons, List.length_append, List.length_cons]
    omega
theorem textP_succ {s : Sl} {i : Nat} (h : i < s.length) : textP (s.take (i + 1)) = textP (s.take i) ++ pairP s[i] := by
  unfold textP
  rw [List.take_add_one, List.getElem?_eq_getElem h, List.flatMap_append]
  simp [List.flatMap]
theorem own_new {B0 size n : Nat} {e : TypeId} {w w' : World} {v : Value} {xs : List Value} (h : w.ownsRow B0 e size v n xs) (hb : Below w.heap.size w w') : w'.ownsRow B0 e size v n xs := by
  refine ⟨h.1, ?_⟩
  rcases h.2 with h2 | ⟨g, cap, cur, h1, h2, h3, h4⟩
  · exact .inl h2
  · exact .inr ⟨g, cap, cur, h1, h2, (Chg.new hb NoFp).heap h3 (fun h => h), h4⟩
theorem Bl.new {w w' : World} {B0 b : Nat} {l : List UInt8} (h : Bl w B0 b l) (hb : Below w.heap.size w w') : Bl w' B0 b l := by
  have key : ∀ {p : Value}, Lib.BuilderAt TB TU B0 b p (bv l) w → Lib.BuilderAt TB TU B0 b p (bv l) w' := by
    rintro p ⟨h1, v, h2, h3, h4⟩
    exact ⟨h1, v, (Chg.new hb NoFp).heap h2 (fun h => h), own_new h3 hb, h4⟩
  rcases h with h | h
  · exact .inl (key h)
  · exact .inr (key h)
theorem CellsAt.new {w w' : World} {g o : Nat} {p : Pr} (h : CellsAt w g o p) (hb : Below w.heap.size w w') (hg : g < w.heap.size) : CellsAt w' g o p :=
  ⟨(hb.cell (p := ⟨g, o, none⟩) hg).trans h.1, (hb.cell (p := ⟨g, o + 1, none⟩) hg).trans h.2.1, (hb.cell (p := ⟨g, o + 2, none⟩) hg).trans h.2.2.1, (hb.cell (p := ⟨g, o + 3, none⟩) hg).trans h.2.2.2.1, (hb.cell (p := ⟨g, o + 4, none⟩) hg).trans h.2.2.2.2⟩
theorem CellsAt.of {w : World} {g : Nat} {p : Pr} (h : Blk w g (pc p) TP) : CellsAt w g 0 p :=
  ⟨h.cell 0, h.cell 1, h.cell 2, h.cell 3, h.cell 4⟩

set_option maxRecDepth 100000 in
set_option maxHeartbeats 4000000 in
theorem text_any (s : Sl) (v0 : Value) (w : World) (n : Nat) (hs : SolAt w v0 s) (ho : OkS n s) (hn : n ≤ 1000) :
    Calls Try.prog 16 #[v0] w fun e w' => e = .returned (.string (B (textP s))) ∧ Below w.heap.size w w' := by
  obtain ⟨p, c, rfl⟩ := hs.shape
  have hsl := ho.len
  have HS := hid hs
  have HA := hid ho
  clear hs ho
  go_enter Try.func16, Try.ntmps16
  have hw0 := Bl.fresh w
  have hb0 := (Below.refl w.heap.size w).alloc (Nat.le_refl _) (.cells #[.pointer none, .slice none 0 0] TB)
  go_wp2_with fail
  generalize w.alloc (.cells #[.pointer none, .slice none 0 0] TB) = w0 at hw0 hb0 ⊢
  have HW0 := hid hw0
  have HB0 := hid hb0
  clear hw0 hb0
  go_loopw [8] (fun vi wr => ∃ i : Nat, vi = .int .i64 i ∧ i ≤ s.length ∧ Hid (Bl wr w.heap.size w.heap.size (textP (s.take i))) ∧ Hid (Below w.heap.size w wr)) (fun vi _ => s.length + 1 - (intOf vi).toNat)
  case atStart => exact ⟨0, rfl, Nat.zero_le _, HW0, HB0⟩
  case round =>
    obtain ⟨i, rfl, hi, HO, HB⟩ := hrel
    have hsz := HB.out.size
    by_cases hil : i < s.length
    · have hil2 : (i : Int) < (s.length : Int) := by omega
      obtain ⟨b, off, rfl, c0, c1, c2, c3, c4⟩ := (HS.out.new HB.out).at hil
      have hok := HA.out.ok s[i] (List.getElem_mem hil)
      have HQ := hid hok
      have HTS := hid (textP_succ hil)
      have htl := textP_len (s := s.take i) (fun q hq => HA.out.ok q (List.mem_of_mem_take hq))
      have hpl := pairP_len hok
      rw [List.length_take] at htl
      have htm := termP_len hok.2
      have hnm := hok.1
      clear hok
      generalize hq : s[i] = q at *
      obtain ⟨nm, t⟩ := q
      simp only at htm hnm
      go_wp2_with fail
      have hz : Blk (wr.alloc (Obj.cells (pc (nm, t)).toArray TP)) wr.heap.size (pc (nm, t)) TP := heap_alloc_new wr _
      have hzb := (Below.refl wr.heap.size wr).alloc (Nat.le_refl _) (Obj.cells (pc (nm, t)).toArray TP)
      have HC := hid (CellsAt.of hz)
      have HO1 := hid (HO.out.new hzb)
      have HB1 := hid (HB.out.trans (hzb.mono hsz))
      have hlt := hz.lt
      have hbl : w.heap.size < wr.heap.size := HO.out.lt
      clear hz hzb
      generalize hw1 : wr.alloc (Obj.cells (pc (nm, t)).toArray TP) = w1 at HC HO1 HB1 hlt
      have hw2 : wr.alloc (Obj.cells #[Value.string (B nm), Value.int IntKind.i64 t.fst, Value.string (B t.snd.fst), Value.string (B t.snd.snd.fst), Value.string (B t.snd.snd.snd)] TP) = w1 := hw1
      clear hw1
      simp only [hw2]
      clear hw2
      refine wp_region_plan (fun w' => CellsAt w' wr.heap.size 0 (nm, t)) (fun j => !([6, 9].contains j)) (fun j => j == 9)
        (.of [0, 1, 2, 3, 4, 5, 6, 7, 8, 9]) (by kernel_rfl) (by kernel_rfl) rfl (by kernel_rfl) (by kernel_rfl) HC.out ?_
      iterate 6 (apply wpPlan_val; (case ho => rfl); (case hst => rfl); (case hw => rfl); (case hv => intro w' hS; obtain ⟨c0, c1, c2, c3, c4⟩ := hS; go_simp; first | done | rfl | (rw [if_neg (by (try simp only [List.length_append, List.length_cons, List.length_nil]); omega)])); intro K hK; go_simp; refine hK _ ?_; clear hK K)
      refine wpPlan_list rfl rfl rfl (fun K hK => ?_)
      refine wpList_step (fun K2 hK2 => ?_)
      go_simp
      refine (termText_any t w1.drew HQ.out.2).mono ?_
      rintro e2 w2 ⟨rfl, hb2⟩
      have HC2 := hid (HC.out.new (w := w1.drew) hb2 (by simpa using hlt))
      have HO2 := hid ((HO1.out.drew).new hb2)
      have HB2 := hid (HB1.out.drew.trans (hb2.mono (by have := HB1.out.size; simpa using this)))
      clear hb2
      go_simp
      refine hK2 _ _ ?_
      clear hK2 K2
      simp only [wpList]
      refine hK _ _ (fun _ => HC2.out) ?_
      clear hK K
      iterate 2 (apply wpPlan_val; (case ho => rfl); (case hst => rfl); (case hw => rfl); (case hv => intro w' hS; obtain ⟨c0, c1, c2, c3, c4⟩ := hS; go_simp; first | done | rfl | (rw [if_neg (by (try simp only [List.length_append, List.length_cons, List.length_nil]); omega)])); intro K hK; go_simp; refine hK _ ?_; clear hK K)
      refine wpPlan_list rfl rfl rfl (fun K hK => ?_)
      refine wpList_step (fun K2 hK2 => ?_)
      go_simp
      refine (writeString_any w.heap.size w.heap.size (textP (s.take i)) (pairP (nm, t)) w2 HO2.out (by omega) HB2.out.size).mono ?_
      rintro e3 w3 ⟨rfl, h3, hb3⟩
      rw [← HTS.out] at h3
      have HO3 := hid h3
      have HB3 := hid (HB2.out.trans hb3)
      clear hb3 h3
      go_simp
      refine hK2 _ _ ?_
      clear hK2 K2
      simp only [wpList]
      refine hK _ _ (fun h => by cases h) ?_
      clear hK K
      refine wpPlan_nil ?_
      simp only [Qn]
      go_wp2_with fail
      case roundEnd => exact ⟨⟨i + 1, by go_num, by omega, HO3, HB3⟩, by simp [intOf]; omega⟩
    · have hil2 : ¬ (i : Int) < (s.length : Int) := by omega
      have hie : i = s.length := by omega
      subst hie
      rw [List.take_length] at HO
      go_wp2_with fail
      refine (string_any w.heap.size w.heap.size (textP s) wr HO.out hsz).mono ?_
      rintro e1 wx ⟨rfl, hb1⟩
      have HZ := hid (HB.out.trans hb1)
      clear hb1
      go_wp2_with fail
      go_ret
      exact ⟨rfl, HZ.out⟩

set_option maxRecDepth 100000 in
set_option maxHeartbeats 4000000 in
theorem rText_any (s : Sl) (v0 : Value) (w : World) (n : Nat) (hs : SolAt w v0 s) (ho : OkS n s) (hn : n ≤ 1000) :
    Calls Try.prog 22 #[v0] w fun e w' => e = .returned (.string (B (textP s))) ∧ Below w.heap.size w w' := by
  obtain ⟨p, c, rfl⟩ := hs.shape
  have hsl := ho.len
  have HS := hid hs
  have HA := hid ho
  clear hs ho
  go_enter Try.func22, Try.ntmps22
  go_wp2_with fail
  go_loopw [3, 4] (fun vo vi wr => ∃ i : Nat, vo = .string (B (textP (s.take i))) ∧ vi = .int .i64 i ∧ i ≤ s.length ∧ Hid (Below w.heap.size w wr)) (fun _ vi _ => s.length + 1 - (intOf vi).toNat)
  case atStart => exact ⟨0, rfl, rfl, Nat.zero_le _, hid (Below.refl _ _)⟩
  case round =>
    obtain ⟨i, rfl, rfl, hi, HB⟩ := hrel
    have hsz := HB.out.size
    by_cases hil : i < s.length
    · have hil2 : (i : Int) < (s.length : Int) := by omega
      obtain ⟨b, off, rfl, _⟩ := (HS.out.new HB.out).cells (by omega)
      have hca := (HS.out.new HB.out).cellsAt hil
      have hok := HA.out.ok s[i] (List.getElem_mem hil)
      have HQ := hid hok
      have HTS := hid (textP_succ hil)
      have htl := textP_len (s := s.take i) (fun q hq => HA.out.ok q (List.mem_of_mem_take hq))
      have hpl := pairP_len hok
      rw [List.length_take] at htl
      have htm := termP_len hok.2
      have hnm := hok.1
      have HC := hid hca
      have hbl : b < wr.heap.size := World.block_lt_of_cell? wr _ hca.1
      clear hok hca
      generalize hq : s[i] = q at *
      generalize hx1 : textP (s.take (i + 1)) = tx1 at *
      generalize textP (s.take i) = tx0 at *
      obtain ⟨nm, t⟩ := q
      simp only at htm hnm
      go_wp2_with fail
      refine wp_region_plan (fun w' => CellsAt w' b (off + i * 5) (nm, t)) (fun j => !([14].contains j)) (fun j => false)
        (.of [0, 1, 2, 3, 4, 5, 6, 7, 8, 9, 10, 11, 12, 13, 14, 15, 16, 17]) (by kernel_rfl) (by kernel_rfl) rfl (by kernel_rfl) (by kernel_rfl) HC.out ?_
      iterate 14 (apply wpPlan_val; (case ho => rfl); (case hst => rfl); (case hw => rfl); (case hv => intro w' hS; obtain ⟨c0, c1, c2, c3, c4⟩ := hS; go_simp; first | done | rfl | (rw [if_neg (by (try simp only [List.length_append, List.length_cons, List.length_nil]); omega)])); intro K hK; go_simp; refine hK _ ?_; clear hK K)
      refine wpPlan_list rfl rfl rfl (fun K hK => ?_)
      refine wpList_step (fun K2 hK2 => ?_)
      go_simp
      refine (rTermText_any t wr.drew HQ.out.2).mono ?_
      rintro e2 w2 ⟨rfl, hb2⟩
      have HC2 := hid (HC.out.new (w := wr.drew) hb2 (by simpa using hbl))
      have HB2 := hid (HB.out.drew.trans (hb2.mono hsz))
      clear hb2
      go_simp
      refine hK2 _ _ ?_
      clear hK2 K2
      simp only [wpList]
      refine hK _ _ (fun _ => HC2.out) ?_
      clear hK K
      iterate 3 (apply wpPlan_val; (case ho => rfl); (case hst => rfl); (case hw => rfl); (case hv => intro w' hS; obtain ⟨c0, c1, c2, c3, c4⟩ := hS; go_simp; first | done | rfl | (rw [if_neg (by (try simp only [List.length_append, List.length_cons, List.length_nil]); omega)])); intro K hK; go_simp; refine hK _ ?_; clear hK K)
      refine wpPlan_nil ?_
      simp only [Qn]
      go_wp2_with fail
      case roundEnd => exact ⟨⟨i + 1, by rw [show textP (s.take (i + 1)) = tx0 ++ pairP (nm, t) from hx1.trans HTS.out]; rfl, by go_num, by omega, HB2⟩, by simp [intOf]; omega⟩
    · have hil2 : ¬ (i : Int) < (s.length : Int) := by omega
      have hie : i = s.length := by omega
      subst hie
      rw [List.take_length]
      go_wp2_with fail
      go_ret
      exact ⟨rfl, HB.out⟩
end Go.Proofs.Ytkhdadbbgfjcgaa
