/- slices.Insert at a row's end. -/
import Derived.Test.YtdilkgcoecipjaaBtJ
namespace Go.Proofs.Ytdilkgcoecipjaa
open Go.RowKit Go.Maps
set_option linter.unusedVariables false

theorem infoSt1 : (Try.prog.info? TSt).map (·.size) = some 1 := by kernel_rfl

set_option maxRecDepth 100000 in
set_option maxHeartbeats 2000000 in
theorem insert_end (w : World) (B0 : Nat) (p : Option Addr) (n c : Nat) (xs : List Value) (g : Nat) (x : Value) (hown : w.ownsRow B0 TSt 1 (.slice p n c) n xs) (hx : Blk w g [x] TSt) (h1 : x.oneCell' = true) (hB : B0 ≤ w.heap.size) (hn : n ≤ 100000) :
    Calls Try.prog 76 #[.slice p n c, .int .i64 (n : Int), .slice (some ⟨g, 0, none⟩) 1 1] w fun e w' => ∃ p' c', e = .returned (.slice p' (n + 1) c') ∧ w'.ownsRow B0 TSt 1 (.slice p' (n + 1) c') (n + 1) (xs ++ [x]) ∧ Chg (fun k => Value.ownBlock (.slice p n c) = some k) w w' ∧
      (Value.ownBlock (.slice p' (n + 1) c') = Value.ownBlock (.slice p n c) ∨ Value.ownBlock (.slice p' (n + 1) c') = some w.heap.size) := by
  have HO := hid hown
  have HX := hid hx
  have H1 := hid h1
  have hrd := Rd.of_own hown
  obtain ⟨_, p0, c0, he, hnc, hcm, _, _⟩ := hrd
  cases he
  have HRD := hid (Rd.of_own hown)
  clear hown hx h1
  go_enter Try.func76, Try.ntmps76
  go_wp2_with (first
    | (refine wpList_slice_rd rfl 33 _ _ _ rfl 9 1 Try.underlying33 infoSt1 _ _ _ rfl HRD.out n n ⟨_, _, rfl, by omega, by simp⟩ rfl (Nat.le_refl _) (Nat.le_refl _) ?_; intro qa qc hq hqb)
    | (at_builtin; refine wp_keep ?_))
  refine hid ?_
  refine wpList_append_rd rfl _ _ 33 rfl B0 TSt _ 1 16 Try.underlying33 infoSt rfl (by decide) _ _ _ rfl HO.out _ 1 [x] rfl (rd_val HX.out) (by intro u hu; rw [List.mem_singleton] at hu; rw [hu]; exact H1.out) (by simp only [maxLen]; omega) (by omega) hB ?_
  intro p2 c2 w2 ho2 hg2 hv2
  have HO2 := hid ho2
  have HG2 := hid (show Chg (fun k => Value.ownBlock (.slice p n c) = some k) w w2 from Chg.grown hg2)
  have HV2 := hid hv2
  clear ho2 hg2 hv2
  go_wp2_with fail
  go_ret
  exact ⟨p2, c2, rfl, HO2.out, HG2.out, HV2.out⟩
end Go.Proofs.Ytdilkgcoecipjaa
