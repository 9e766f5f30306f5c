/- triadlaw16: known. -/
import Derived.Test.YtkhdadbbgfjcgaaSolLa
namespace Go.Proofs.Ytkhdadbbgfjcgaa
open Go.RowKit
set_option linter.unusedVariables false

def s0 : Sl := [([97], (1, [120], [], []))]
theorem jn0 : jnP false [s0] [[]] = some [s0] := by kernel_rfl
theorem text0 : textP s0 = [63, 97, 32, 60, 120, 62, 32] := by kernel_rfl
theorem s0_ok : OkS 1 s0 := ⟨by decide, List.pairwise_singleton _ _, fun p hp => by
  simp [s0] at hp; subst hp; exact ⟨by decide, by decide, by decide, by decide, by decide, by decide⟩⟩
theorem SolAt.lit {w : World} {g : Nat} {p : Pr} (h : Blk w g (pc p) TP) : SolAt w (.slice (some ⟨g, 0, none⟩) 1 1) [p] :=
  ⟨by have := rd_one h; simpa [pcs] using this, fun _ k hk => by cases hk; exact ⟨_, _, h⟩⟩

set_option maxRecDepth 100000 in
set_option maxHeartbeats 4000000 in
theorem known_any (w : World) : Calls Try.prog 10 #[] w fun e w' => e = .returned (.bool true) ∧ Below w.heap.size w w' := by
  go_enter Try.func10, Try.ntmps10
  go_wp2_with fail
  have h1 : Blk (w.alloc (Obj.cells (pc ([97], (1, [120], [], []))).toArray TP)) w.heap.size (pc ([97], (1, [120], [], []))) TP := heap_alloc_new w _
  have b1 := (Below.refl w.heap.size w).alloc (Nat.le_refl _) (Obj.cells (pc ([97], (1, [120], [], []))).toArray TP)
  have z1 : (w.alloc (Obj.cells (pc ([97], (1, [120], [], []))).toArray TP)).heap.size = w.heap.size + 1 := by simp
  obtain ⟨w1, e1⟩ : ∃ w1, w.alloc (Obj.cells (pc ([97], (1, [120], [], []))).toArray TP) = w1 := ⟨_, rfl⟩
  rw [e1] at h1 b1 z1
  have e1' : w.alloc (Obj.cells #[Value.string { data := #[97] }, Value.int IntKind.i64 1, Value.string { data := #[120] }, Value.string { data := #[] }, Value.string { data := #[] }] TP) = w1 := e1
  simp only [e1']
  clear e1 e1'
  have h2 : Blk (w1.alloc (Obj.cells ([.slice (some ⟨w.heap.size, 0, none⟩) 1 1] : List Value).toArray TL)) w1.heap.size [.slice (some ⟨w.heap.size, 0, none⟩) 1 1] TL := heap_alloc_new w1 _
  have b2 := (Below.refl w1.heap.size w1).alloc (Nat.le_refl _) (Obj.cells ([.slice (some ⟨w.heap.size, 0, none⟩) 1 1] : List Value).toArray TL)
  have z2 : (w1.alloc (Obj.cells ([.slice (some ⟨w.heap.size, 0, none⟩) 1 1] : List Value).toArray TL)).heap.size = w.heap.size + 1 + 1 := by simp; omega
  obtain ⟨w2, e2⟩ : ∃ w2, w1.alloc (Obj.cells ([.slice (some ⟨w.heap.size, 0, none⟩) 1 1] : List Value).toArray TL) = w2 := ⟨_, rfl⟩
  rw [e2] at h2 b2 z2
  have e2' : w1.alloc (Obj.cells #[.slice (some ⟨w.heap.size, 0, none⟩) 1 1] TL) = w2 := e2
  simp only [e2']
  clear e2 e2'
  have h3 : Blk (w2.alloc (Obj.cells ([.slice none 0 0] : List Value).toArray TL)) w2.heap.size [.slice none 0 0] TL := heap_alloc_new w2 _
  have b3 := (Below.refl w2.heap.size w2).alloc (Nat.le_refl _) (Obj.cells ([.slice none 0 0] : List Value).toArray TL)
  obtain ⟨w3, e3⟩ : ∃ w3, w2.alloc (Obj.cells ([.slice none 0 0] : List Value).toArray TL) = w3 := ⟨_, rfl⟩
  rw [e3] at h3 b3
  have e3' : w2.alloc (Obj.cells #[.slice none 0 0] TL) = w3 := e3
  simp only [e3']
  clear e3 e3'
  rw [z1] at h2
  rw [z2] at h3
  have hs1 : SolAt w1 (.slice (some ⟨w.heap.size, 0, none⟩) 1 1) s0 := SolAt.lit h1
  have hs3 := (hs1.new b2).new b3
  have hb := (b1.trans (b2.mono (by omega))).trans (b3.mono (by omega))
  have hr1 := SolsAt.one (h2.chg (Chg.new b3 NoFp) (fun h => h)) hs3
  have hr2 := SolsAt.one h3 (SolAt.nil w3)
  have HS3 := hid hs3
  have HB := hid hb
  have hpos : w.heap.size ≤ w3.heap.size := hb.size
  clear h1 b1 z1 h2 b2 z2 h3 b3 hs1 hs3 hb
  refine (join_any [s0] [[]] _ _ w3 1 0 hr1 hr2 (fun s hs => by simp at hs; subst hs; exact s0_ok) (fun s hs => by simp at hs; subst hs; exact OkS.nil 0) (by omega) (by simp) (by simp)).mono ?_
  rintro e4 w4 ⟨p4, c4, rfl, ho4, hb4⟩
  rw [jn0] at ho4 ⊢
  simp only [Option.getD_some, Option.isSome_some, if_true, List.length_singleton] at ho4 ⊢
  have HS4 := hid (HS3.out.new hb4)
  have HB4 := hid (HB.out.trans (hb4.mono hpos))
  obtain ⟨b, off, u, rfl, hcell, hsu⟩ := ho4.at.get (show 0 < [s0].length by decide)
  obtain ⟨pu, cu, rfl⟩ := hsu.shape
  have hcell : w4.cell? ⟨b, off, none⟩ = some (.slice pu 1 cu) := hcell
  clear hr1 hr2 ho4 hb4 hsu
  go_wp2_with fail
  refine (text_any s0 (.slice (some ⟨w.heap.size, 0, none⟩) 1 1) w4 1 HS4.out s0_ok (by omega)).mono ?_
  rintro e5 w5 ⟨rfl, hb5⟩
  rw [text0]
  have HB5 := hid (HB4.out.trans (hb5.mono HB4.out.size))
  clear hb5 hcell
  go_wp2_with fail
  go_ret
  exact ⟨rfl, HB5.out⟩
end Go.Proofs.Ytkhdadbbgfjcgaa
