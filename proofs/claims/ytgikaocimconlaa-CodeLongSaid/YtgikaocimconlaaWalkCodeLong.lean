/- triadlaw1.CodeLong: the walk. -/
import Derived.Test.YtgikaocimconlaaLaw1
import Derived.Test.YtgikaocimconlaaArgs
namespace Go.Proofs.Ytgikaocimconlaa
open Go.RowKit
set_option linter.unusedVariables false

theorem made_u8 (n : Nat) : madeCells (Value.int .u8 0).cells (n * 1) = (bv (List.replicate n 0)).toArray := by
  apply Array.ext'
  rw [Nat.mul_one]
  show (madeCells #[Value.int .u8 0] n).toList = _
  rw [toList_madeCells_one]
  simp [bv]

theorem made0 {n : Nat} (h : 0 < n) : (bv (List.replicate n 0)).toArray[0]? = some (.int .u8 0) := by
  obtain ⟨m, rfl⟩ : ∃ m, n = m + 1 := ⟨n - 1, by omega⟩
  simp [bv, List.replicate_succ]

set_option maxRecDepth 100000 in
theorem codeLong_walk (a0 : Int) (a1 : Int) (w : World) (w0 : (Lit.int .i64 a0).wf = true) (w1 : (Lit.int .u8 a1).wf = true) :
    Calls Try.prog 3 #[.int .i64 a0, .int .u8 a1] w fun e w' => e = .returned (.bool true) ∧ Below w.heap.size w w' := by
  have hb := u8_of_wf w1
  clear w0 w1
  go_enter Try.func3, Try.ntmps3
  go_wp2_with fail
  refine (known1_any _).mono ?_; rintro e1 w1 ⟨rfl, hb1⟩; have B1 := hid hb1; clear hb1
  go_wp2_with fail
  refine (within1_any _ _ _ (by omega) (by omega)).mono ?_; rintro e1 wx ⟨rfl, rfl⟩
  have m1 := Int.emod_nonneg a0 (show (5 : Int) ≠ 0 by omega); have m2 := Int.emod_lt_of_pos a0 (show (0 : Int) < 5 by omega); generalize a0 % 5 = x at m1 m2 ⊢
  obtain ⟨N, hN, hN1, hN2⟩ : ∃ N : Nat, 65533 + x = (N : Int) ∧ 65533 ≤ N ∧ N ≤ 65537 := ⟨(65533 + x).toNat, by omega, by omega, by omega⟩
  clear m1 m2
  obtain ⟨c0, hc0⟩ : ∃ c0 : UInt8, (c0.toNat : Int) = a1 := ⟨UInt8.ofNat a1.toNat, u8_back a1 hb.1 (by omega)⟩
  have hset : ((bv (List.replicate N 0)).toArray.setIfInBounds 0 (.int .u8 a1)) = (bv (c0 :: List.replicate (N - 1) 0)).toArray := by
    obtain ⟨M, rfl⟩ : ∃ M, N = M + 1 := ⟨N - 1, by omega⟩
    simp [bv, List.replicate_succ, hc0]
  have HSET := hid hset
  have HC0 := hid hc0
  clear hset hc0
  go_wp2_with (first
    | (at_make; refine wpList_make_blk rfl _ _ 24 rfl 5 _ 1 1 Try.underlying24 infoU8 _ _ _ _ N rfl rfl rfl rfl (by omega) (by simp only [maxLen]; omega) ?_; intro w2 hh hb2 hlt; rw [made_u8] at hh; have HH := hid hh; have B2 := hid hb2; have hc' : w2.cell? ⟨w1.heap.size, 0, none⟩ = some (.int .u8 0) := (cell_of_row _ _ 0 _ _ _ hh).trans (made0 (by omega)); have hf := frozen_of_row _ _ 0 _ _ hh; have H3 := hid ((heap_setCell_same _ _ 0 _ _ (.int .u8 a1) hh).trans (congrArg (fun c => some (Obj.cells c 5 (0, 0))) HSET.out)); have HS := hid (Bs.blk (n := N) H3.out (by simp; omega) (by simp only [maxLen]; omega)); have B3 := hid (B1.out.trans ((B2.out.setCell (p := ⟨w1.heap.size, 0, none⟩) (Nat.le_refl _) (.int .u8 a1)).mono B1.out.size)); clear hh hb2)
    | (refine wpList_bytes_str rfl 24 9 _ rfl 5 Try.underlying24 Try.underlying5 Try.underlying9 _ _ rfl HS.out ?_))
  obtain ⟨K, hK, hK1, hK2, hKm⟩ : ∃ K : Nat, (if (65535 : Int) < (N : Int) then (65535 : Int) else (N : Int)) = (K : Int) ∧ 65533 ≤ K ∧ K ≤ 65535 ∧ K = min 65535 N := ⟨min 65535 N, by split <;> omega, by omega, by omega, rfl⟩
  obtain ⟨C, hC, hCl, hC0⟩ : ∃ C : List UInt8, cutText (c0 :: List.replicate (N - 1) 0) = C ∧ C.length = K ∧ C[0]? = some c0 := by
    refine ⟨_, rfl, ?_, ?_⟩
    · simp [cutText]; omega
    · simp [cutText]
  have hT := fun w9 => cText_any (.slice none 0 0) [] ⟨(c0 :: List.replicate (N - 1) 0).toArray⟩ w9 (Rd.nil _ _) (by simp) (by simp [ByteArray.size]; omega)
  simp only [] at hT
  rw [hC, hCl, List.nil_append] at hT
  have HT := hid hT
  have HCl := hid hCl
  have HC := hid hC0
  clear hT hCl hC0 hC hKm
  generalize (ByteArray.mk (c0 :: List.replicate (N - 1) 0).toArray) = big at HT ⊢
  generalize (w2.setCell ⟨w1.heap.size, 0, none⟩ (.int .u8 a1)) = w3 at B3 ⊢
  clear HS H3 hc' hf HH HSET
  refine (HT.out w3).mono ?_; rintro e1 w4 ⟨p4, n4, c4, rfl, hn, hb4, ho4⟩; have B4 := hid (B3.out.trans (hb4.mono B3.out.size)); have hn4 : n4 = K + 2 := by { rw [hn, List.length_append, HCl.out]; simp; omega }
  have HS4 := hid (Made.bs hn ho4)
  clear hn hb4 ho4 HT
  subst hn4
  have hx : le (K : Int) 2 = [UInt8.ofNat (K % 256), UInt8.ofNat (K / 256)] := by
    have e1 : ((K : Int) / 2 ^ (8 * 0) % 256).toNat = K % 256 := by simp; omega
    have e2 : ((K : Int) / 2 ^ (8 * 1) % 256).toNat = K / 256 := by simp; omega
    show [UInt8.ofNat ((K : Int) / 2 ^ (8 * 0) % 256).toNat, UInt8.ofNat ((K : Int) / 2 ^ (8 * 1) % 256).toNat] = _
    rw [e1, e2]
  have u1 : ((UInt8.ofNat (K % 256)).toNat : Int) = (K : Int) % 256 := by rw [UInt8.toNat_ofNat']; omega
  have u2 : ((UInt8.ofNat (K / 256)).toNat : Int) = (K : Int) / 256 := by rw [UInt8.toNat_ofNat']; omega
  have hnum : num (le (K : Int) 2) = K := by rw [hx]; simp only [num]; omega
  obtain ⟨bb, off, rfl, hcell⟩ := Rd.addr HS4.out (by simp; omega)
  have cc0 : w4.cell? ⟨bb, off, none⟩ = some (.int .u8 ((K : Int) % 256)) := hcell 0 _ (by rw [hx]; simp [bv])
  have cc1 : w4.cell? ⟨bb, off + 1, none⟩ = some (.int .u8 ((K : Int) / 256)) := hcell 1 _ (by rw [hx]; simp [bv]; omega)
  have lt4 := World.block_lt_of_cell? w4 _ cc0
  have HNUM := hid hnum
  have C0 := hid cc0
  have C1 := hid cc1
  have LT4 := hid lt4
  have hlen : (le (K : Int) 2 ++ C).length = K + 2 := by simp [HCl.out]; omega
  have HLEN := hid hlen
  clear hx u1 u2 hnum hcell cc0 cc1 lt4 hlen
  go_wp2_with fail
  have hbs : Bs w4 (.slice (some ⟨bb, off, none⟩) (K + 2) c4) (le (K : Int) 2 ++ C) := HS4.out
  refine (New_any _ _ _ hbs (by rw [HLEN.out]; omega)).mono ?_; rintro e1 w5 ⟨r, rfl, hb5, hr1, ob, hob, hr⟩; have B5 := hid hb5; have R1 := hid hr1; have R5 := hid hr; clear hb5 hr1 hob hr hbs
  go_wp2_with fail
  have g1 : tkGot (le (K : Int) 2 ++ C) 0 2 = le (K : Int) 2 := by simp [tkGot, HLEN.out]; intro h; omega
  have g2 : tkLeft (le (K : Int) 2 ++ C) 0 2 = C := by simp [tkLeft, HLEN.out]; intro h; omega
  have g3 : tkErr (le (K : Int) 2 ++ C) 0 2 = 0 := by simp [tkErr, HLEN.out]
  have g4 : tkGot C 0 K = C := by simp [tkGot, HCl.out]; rw [← HCl.out, List.take_length]
  have g5 : tkLeft C 0 K = [] := by simp [tkLeft, HCl.out]
  have g6 : tkErr C 0 K = 0 := by simp [tkErr, HCl.out]
  have HX := rText_any r ob (le (K : Int) 2 ++ C) 0 w5 R5.out (by rw [HLEN.out]; omega) (by omega) (by omega)
  rw [g1, g2, g3, HNUM.out, g4, g5, g6] at HX
  have HX := hid HX
  clear g1 g2 g3 g4 g5 g6
  refine HX.out.mono ?_; rintro e1 w6 ⟨rfl, hc, hr⟩; have C6 := hid hc; have R6 := hid hr; clear hc hr R5 HX
  have B6 := hid (B5.out.trans (C6.out.below (B := w4.heap.size) (fun k hk => by rw [hk]; exact R1.out) B5.out.size))
  have c60 : w6.cell? ⟨bb, off, none⟩ = some (.int .u8 ((K : Int) % 256)) := (B6.out.cell (p := ⟨bb, off, none⟩) LT4.out).trans C0.out
  have c61 : w6.cell? ⟨bb, off + 1, none⟩ = some (.int .u8 ((K : Int) / 256)) := (B6.out.cell (p := ⟨bb, off + 1, none⟩) LT4.out).trans C1.out
  have hsz : (ByteArray.mk C.toArray).size = K := by simp [ByteArray.size, HCl.out]
  have hidx : ∀ h, (((ByteArray.mk C.toArray)[0]'h).toNat : Int) = a1 := by
    intro h
    have h9 : C.toArray[0]? = some c0 := by simpa using HC.out
    have h8 : (ByteArray.mk C.toArray)[0]'h = c0 := by
      have : C.toArray[0]'h = c0 := by
        rw [Array.getElem?_eq_getElem h] at h9; exact Option.some.inj h9
      exact this
    rw [h8]; exact HC0.out
  go_wp2_with fail
  refine (rEnd_any r ob [] 0 _ R6.out (by simp)).mono ?_; rintro e1 wx ⟨rfl, rfl⟩
  go_wp2_with fail
  go_ret
  exact ⟨rfl, B4.out.trans (B6.out.mono B4.out.size)⟩
end Go.Proofs.Ytgikaocimconlaa
