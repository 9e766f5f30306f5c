/- triadlaw16: Some, known. -/
import Derived.Test.YtkhdadbbgfjcgaaSolU
namespace Go.Proofs.Ytkhdadbbgfjcgaa
open Go.RowKit
set_option linter.unusedVariables false

def someP (xs : List Int) : List Sl := (xs.take 30).map oneP
theorem someP_len (xs : List Int) : (someP xs).length ≤ 30 := by unfold someP; rw [List.length_map, List.length_take]; omega
theorem someP_ok (xs : List Int) : ∀ s ∈ someP xs, OkS 4 s := by
  intro s hs
  obtain ⟨x, _, rfl⟩ := List.mem_map.1 hs
  exact oneP_ok x
def I64 (xs : List Int) : Prop := ∀ x ∈ xs, -9223372036854775808 ≤ x ∧ x ≤ 9223372036854775807

set_option maxRecDepth 100000 in
set_option maxHeartbeats 4000000 in
theorem some_any (xs : List Int) (v : Value) (w : World) (hv : Rd w 1 v xs.length (xs.map (Value.int .i64))) (hx : I64 xs) :
    Calls Try.prog 11 #[v] w fun e w' => ∃ p c, e = .returned (.slice p (someP xs).length c) ∧ OwnL w.heap.size w' (.slice p (someP xs).length c) (someP xs) ∧ Below w.heap.size w w' := by
  obtain ⟨_, pv, cv, rfl, _⟩ := id hv
  have HV := hid hv
  have HX := hid hx
  clear hv hx
  go_enter Try.func11, Try.ntmps11
  go_wp2_with fail
  go_loopw [3, 4] (fun vo vi wr => ∃ (i : Nat) (p : Option Addr) (c : Nat) (o : List Sl), vo = .slice p i c ∧ vi = .int .i64 i ∧ i ≤ 30 ∧ i ≤ xs.length ∧ Hid (o = (xs.take i).map oneP) ∧ Hid (o.length = i) ∧ Hid (OwnL w.heap.size wr (.slice p i c) o) ∧ Hid (Below w.heap.size w wr)) (fun vo vi _ => 31 - (intOf vi).toNat)
  case atStart => exact ⟨0, none, 0, [], rfl, rfl, by omega, Nat.zero_le _, rfl, rfl, OwnL.nil _ _, Below.refl _ _⟩
  case round =>
    obtain ⟨i, p, c, o, rfl, rfl, hi, hil, HO1, HK, HO, HB⟩ := hrel
    have hsz := HB.out.size
    by_cases hlt : i < xs.length
    · have hlt2 : (i : Int) < (xs.length : Int) := by omega
      by_cases h30 : i < 30
      · have h302 : (i : Int) < 30 := by omega
        obtain ⟨b, off, rfl, hc⟩ := Rd.addr (HV.out.new HB.out) (by omega)
        obtain ⟨x, hx⟩ : ∃ x, xs[i] = x := ⟨_, rfl⟩
        have hcell : wr.cell? ⟨b, off + i, none⟩ = some (.int .i64 x) := hc i _ (by rw [List.getElem?_map, List.getElem?_eq_getElem hlt, hx]; rfl)
        have hxb := HX.out x (by rw [← hx]; exact List.getElem_mem hlt)
        have HTK := hid (show (xs.take (i + 1)).map oneP = (xs.take i).map oneP ++ [oneP x] by rw [List.take_add_one, List.getElem?_eq_getElem hlt, hx]; simp)
        have HXB := hid hxb
        clear hc hx hxb
        go_wp2_with fail
        refine (oneSol_any x wr HXB.out.1 HXB.out.2).mono ?_
        rintro e1 w1 ⟨p1, c1, rfl, ho1, hb1⟩
        have HO2 := hid (HO.out.new hb1)
        have HB1 := hid (HB.out.trans (hb1.mono hsz))
        have HS1 := hid ho1.sol
        clear ho1 hb1 hcell
        generalize oneP x = s at *
        go_wp2_with (at_builtin; refine wp_keep ?_)
        refine hid ?_
        have hz : Blk (w1.alloc (Obj.cells ([.slice p1 s.length c1] : List Value).toArray TL)) w1.heap.size [.slice p1 s.length c1] TL := heap_alloc_new w1 _
        have hzb := (Below.refl w1.heap.size w1).alloc (Nat.le_refl _) (Obj.cells ([.slice p1 s.length c1] : List Value).toArray TL)
        have hoz := HO2.out.new hzb
        have hbz := HB1.out.trans (hzb.mono HB1.out.size)
        have hsz1 := SolsAt.one hz (HS1.out.new hzb)
        generalize hw3 : w1.alloc (Obj.cells ([.slice p1 s.length c1] : List Value).toArray TL) = w3 at hz hzb hoz hbz hsz1
        have hw4 : w1.alloc (Obj.cells #[.slice p1 s.length c1] TL) = w3 := hw3
        try simp only [hw4]
        clear hw3 hw4
        refine wpList_append_sols rfl _ _ rfl w.heap.size _ o rfl hoz _ [s] rfl hsz1 (by rw [HK.out]; simp; omega) hbz.size ?_
        intro p4 c4 w4 ho4 hb4 _
        have HK4 := hid (show o.length + [s].length = i + 1 by rw [HK.out]; rfl)
        rw [HK4.out] at ho4 ⊢
        have HO4 := hid ho4
        have HB4 := hid (hbz.trans hb4)
        clear ho4 hb4 hz hzb hoz hbz hsz1
        go_wp2_with fail
        case roundEnd => exact ⟨⟨i + 1, p4, c4, o ++ [s], rfl, by go_num, by omega, by omega, by rw [HTK.out, ← HO1.out]; exact rfl, hid (by rw [List.length_append, HK.out]; rfl), HO4, HB4⟩, by simp [intOf]; omega⟩
      · have h302 : ¬ (i : Int) < 30 := by omega
        obtain rfl : i = 30 := by omega
        go_wp2_with fail
        go_ret
        have ho : o = someP xs := HO1.out
        subst ho
        exact ⟨p, c, by rw [HK.out]; rfl, by rw [HK.out]; exact HO.out, HB.out⟩
    · have hlt2 : ¬ (i : Int) < (xs.length : Int) := by omega
      have ho : o = someP xs := by rw [HO1.out]; unfold someP; rw [List.take_of_length_le (by omega), List.take_of_length_le (by omega)]
      have HOO := hid ho
      clear ho
      go_wp2_with fail
      go_ret
      refine ⟨p, c, ?_, ?_, HB.out⟩
      · rw [← HOO.out, HK.out]; rfl
      · rw [← HOO.out, HK.out]; exact HO.out
end Go.Proofs.Ytkhdadbbgfjcgaa
