/- strings.Builder: what its calls do to one that the call has made. -/
import Derived.Test.YtkhdadbbgfjcgaaIri
import Derived.Test.YtkhdadbbgfjcgaaArr
import Derived.Test.YtkhdadbbgfjcgaaShelf
import Derived.Lib.Builder
import Derived.Lib.Walk
import Derived.Laws.Externs
import Derived.Laws.IdiomCopy
namespace Go.Proofs.Ytkhdadbbgfjcgaa
open Go.RowKit Go.Proofs
set_option linter.unusedVariables false

theorem wp_keep {p : Prop} (h : Hid p) : p := h.out

abbrev TB : TypeId := 65
abbrev TU : TypeId := 5

theorem byteCells_bv (l : List UInt8) : Lib.byteCells l = bv l := rfl

/-- a builder of the call's own -/
def Bl (w : World) (B0 b : Nat) (l : List UInt8) : Prop := Lib.IsBuilder TB TU B0 b (bv l) w
def BlU (w : World) (B0 b : Nat) (l : List UInt8) : Prop := Lib.BuilderAt TB TU B0 b (.pointer (some ⟨b, 0, none⟩)) (bv l) w
theorem BlU.bl {w : World} {B0 b : Nat} {l : List UInt8} (h : BlU w B0 b l) : Bl w B0 b l := .inr h
theorem Bl.drew {w : World} {B0 b : Nat} {l : List UInt8} (h : Bl w B0 b l) : Bl w.drew B0 b l := h
theorem Bl.lt {w : World} {B0 b : Nat} {l : List UInt8} (h : Bl w B0 b l) : b < w.heap.size := by
  rcases h with h | h
  · exact h.lt
  · exact h.lt
theorem Bl.base {w : World} {B0 b : Nat} {l : List UInt8} (h : Bl w B0 b l) : B0 ≤ b := by
  rcases h with h | h
  · exact h.1
  · exact h.1

set_option maxHeartbeats 1000000 in
set_option maxRecDepth 100000 in
theorem copyCheck_any (B0 b : Nat) (l : List UInt8) (w : World) (h : Bl w B0 b l) :
    Calls Try.prog 55 #[.pointer (some ⟨b, 0, none⟩)] w fun e w' => e = .returned (.tuple #[]) ∧ BlU w' B0 b l ∧ Below B0 w w' := by
  rcases h with h | h
  · have h0 := h.cell0
    have hfz := h.frozen0
    have hsh := h.shape
    have H := hid h
    clear h
    obtain ⟨j, hj, hjs⟩ := Option.map_eq_some_iff.1 (show (Try.prog.info? TB).map (·.size) = some 2 by kernel_rfl)
    go_enter Try.func55, Try.ntmps55
    go_wp2
    rw [Lib.run_to_unsafe w ⟨b, 0, none⟩ Try.underlying63 Try.underlying97 hj (by rw [hjs]; decide) hsh (Nat.zero_lt_succ 1)]
    simp only [Result.andThen]
    rw [Oper.upon_value]
    go_wp2
    rw [run_callFunc_extern Try.func70 (by kernel_rfl) (by kernel_rfl) (by kernel_rfl) (e := Extern.AbiNoEscape.same) (by kernel_rfl)]
    rw [Lib.run_noEscape]
    simp only [Result.andThen]
    rw [Oper.upon_value]
    go_wp2
    rw [Lib.run_from_unsafe w ⟨b, 0, none⟩ Try.underlying97 Try.underlying63 hj hsh (by kernel_rfl)]
    simp only [Result.andThen]
    rw [Oper.upon_value]
    go_wp2
    go_end0
    exact ⟨rfl, H.out.used _, (Below.refl B0 w).setCell (p := ⟨b, 0, none⟩) H.out.1 _⟩
  · have h0 := h.cell0
    have H := hid h
    clear h
    obtain ⟨j, hj, hjs⟩ := Option.map_eq_some_iff.1 (show (Try.prog.info? TB).map (·.size) = some 2 by kernel_rfl)
    go_enter Try.func55, Try.ntmps55
    go_wp2
    rw [Lib.run_neq_ptr_same w _ Try.underlying63 hj]
    go_wp2
    go_end0
    exact ⟨rfl, H.out, Below.refl B0 _⟩

theorem infoU8s : (Try.prog.info? TU).map (fun i => (i.zero, i.size, i.bytes)) = some (some (.int .u8 0), 1, 1) := by kernel_rfl

/-- behind an append: the builder's own block, and what is below -/
theorem BlU.grown {w w' : World} {B0 b : Nat} {l : List UInt8} {ao : Option Addr} {n cap : Nat} {v' : Value} {m : List UInt8} (hB : B0 ≤ b) (hB1 : B0 ≤ w.heap.size)
    (hk : w.heap[b]? = some (.cells #[.pointer (some ⟨b, 0, none⟩), .slice ao n cap] TB (0, 0))) (ho : w.ownsRow B0 TU 1 (.slice ao n cap) n (bv l)) (hn : Value.ownBlock (.slice ao n cap) ≠ some b)
    (hg : w.grownBy w' (Value.ownBlock (.slice ao n cap))) (ho2 : w'.ownsRow B0 TU 1 v' m.length (bv m)) :
    w'.heap[b]? = some (.cells #[.pointer (some ⟨b, 0, none⟩), .slice ao n cap] TB (0, 0)) ∧ Below B0 w w' ∧ BlU (w'.setCell ⟨b, 1, none⟩ v') B0 b m := by
  have hlt : b < w.heap.size := (Array.getElem?_eq_some_iff.1 hk).1
  have hb2 : Below B0 w w' := (Below.refl B0 w).grown hg hB1 (by
    intro k hk
    rcases ho.2 with ⟨hv, h0⟩ | ⟨g, cap, cur, hv, hbg, _⟩
    · rw [hv] at hk; cases hk
    · rw [hv] at hk; cases hk; exact hbg)
  have hk2 := ((Chg.grown hg).block b hlt hn).trans hk
  refine ⟨hk2, hb2, Lib.BuilderAt.put hB hk2 (by simpa using ho2) (by decide)⟩

set_option maxHeartbeats 2000000 in
set_option maxRecDepth 100000 in
theorem writeString_any (B0 b : Nat) (l m : List UInt8) (w : World) (h : Bl w B0 b l) (hlen : l.length + m.length ≤ 2000000) (hB : B0 ≤ w.heap.size) :
    Calls Try.prog 34 #[.pointer (some ⟨b, 0, none⟩), .string (B m)] w fun e w' => e = .returned (.tuple #[.int .i64 (m.length : Int), .nilIface]) ∧ Bl w' B0 b (l ++ m) ∧ Below B0 w w' := by
  have H := hid h
  clear h
  go_enter Try.func34, Try.ntmps34
  go_wp2_with fail
  refine (copyCheck_any B0 b l _ H.out).mono ?_; rintro e1 w1 ⟨rfl, h1, hb1⟩
  have hs1 := hb1.size
  have HB1 := hid hb1
  obtain ⟨hBb, v, hbk, hown, hne⟩ := h1
  rw [bv_length] at hown
  obtain ⟨ao, cap, rfl⟩ : ∃ ao cap, v = .slice ao l.length cap := by
    rcases hown.2 with ⟨hv, h0⟩ | ⟨g, cap, cur, hv, _⟩
    · exact ⟨none, 0, by rw [hv, h0]⟩
    · exact ⟨_, _, hv⟩
  have c1 : w1.cell? ⟨b, 1, none⟩ = some (.slice ao l.length cap) := by rw [Lib.cell_of_heap hbk]; rfl
  have HK := hid hbk
  have HO := hid hown
  have HN := hid hne
  clear hbk hown hne hb1
  go_wp2_with (at_builtin; refine wp_keep ?_)
  refine hid ?_
  refine wpList_append_str rfl _ _ 34 9 rfl B0 TU Try.underlying34 Try.underlying9 infoU8s _ _ _ rfl HO.out _ rfl (by rw [B_size]; omega) (by omega) ?_
  intro p2 c2 w2 ho2 hg2
  rw [B_size, B_data, ← bv_append] at ho2
  rw [B_size]
  have HG := hid (BlU.grown (m := l ++ m) hBb (by omega) HK.out HO.out HN.out hg2 (by rw [List.length_append]; exact ho2))
  have hf2 : w2.frozen? ⟨b, 1, none⟩ = false := Lib.frozen_of_heap HG.out.1 1
  have hc2 : w2.cell? ⟨b, 1, none⟩ = some (.slice ao l.length cap) := by rw [Lib.cell_of_heap HG.out.1]; rfl
  clear ho2 hg2
  go_wp2_with fail
  go_ret2
  exact ⟨rfl, HG.out.2.2.bl, (HB1.out.trans (HG.out.2.1.mono (by omega))).setCell (p := ⟨b, 1, none⟩) hBb _⟩

set_option maxHeartbeats 2000000 in
set_option maxRecDepth 100000 in
theorem writeByte_any (B0 b : Nat) (l : List UInt8) (c : UInt8) (w : World) (h : Bl w B0 b l) (hlen : l.length + 1 ≤ 2000000) (hB : B0 ≤ w.heap.size) :
    Calls Try.prog 71 #[.pointer (some ⟨b, 0, none⟩), .int .u8 (c.toNat : Int)] w fun e w' => e = .returned .nilIface ∧ Bl w' B0 b (l ++ [c]) ∧ Below B0 w w' := by
  have H := hid h
  clear h
  go_enter Try.func71, Try.ntmps71
  go_wp2_with fail
  refine (copyCheck_any B0 b l _ H.out).mono ?_; rintro e1 w1 ⟨rfl, h1, hb1⟩
  have hs1 := hb1.size
  have HB1 := hid hb1
  obtain ⟨hBb, v, hbk, hown, hne⟩ := h1
  rw [bv_length] at hown
  obtain ⟨ao, cap, rfl⟩ : ∃ ao cap, v = .slice ao l.length cap := by
    rcases hown.2 with ⟨hv, h0⟩ | ⟨g, cap, cur, hv, _⟩
    · exact ⟨none, 0, by rw [hv, h0]⟩
    · exact ⟨_, _, hv⟩
  have c1 : w1.cell? ⟨b, 1, none⟩ = some (.slice ao l.length cap) := by rw [Lib.cell_of_heap hbk]; rfl
  have HK := hid hbk
  have HO := hid hown
  have HN := hid hne
  clear hbk hown hne hb1
  have hw1 : b < w1.heap.size := (Array.getElem?_eq_some_iff.1 HK.out).1
  go_wp2_with (at_builtin; refine wp_keep ?_)
  refine hid ?_
  refine wpList_append_rd rfl _ _ 34 rfl B0 TU _ 1 1 Try.underlying34 infoU8s rfl (by decide) _ _ _ rfl (HO.out.alloc _) _ 1 [.int .u8 (c.toNat : Int)] rfl (Rd.fresh1 _ _ _) (by simp [Value.oneCell']) (by simp only [maxLen]; omega) (by omega) (by simp; omega) ?_
  intro p2 c2 w2 ho2 hg2 _
  have HG := hid (BlU.grown (m := l ++ [c]) hBb (by simp; omega) ((Lib.alloc_old _ _ _ hw1).trans HK.out) (HO.out.alloc _) HN.out hg2 (by rw [List.length_append, bv_append]; exact ho2))
  have hf2 : w2.frozen? ⟨b, 1, none⟩ = false := Lib.frozen_of_heap HG.out.1 1
  have hc2 : w2.cell? ⟨b, 1, none⟩ = some (.slice ao l.length cap) := by rw [Lib.cell_of_heap HG.out.1]; rfl
  clear ho2 hg2
  go_wp2_with fail
  go_ret
  exact ⟨rfl, HG.out.2.2.bl, ((HB1.out.alloc (by omega) _).trans (HG.out.2.1.mono (by omega))).setCell (p := ⟨b, 1, none⟩) hBb _⟩

theorem string_any (B0 b : Nat) (l : List UInt8) (w : World) (h : Bl w B0 b l) (hB : B0 ≤ w.heap.size) :
    Calls Try.prog 36 #[.pointer (some ⟨b, 0, none⟩)] w fun e w' => e = .returned (.string (B l)) ∧ Below B0 w w' :=
  Try.Builder_String_any B0 b l w h hB
theorem Bl.fresh (w : World) : Bl (w.alloc (.cells #[.pointer none, .slice none 0 0] TB)) w.heap.size w.heap.size [] := Lib.fresh_isBuilder _ _ w
end Go.Proofs.Ytkhdadbbgfjcgaa
