/- triadlaw10.IriResolves: the walk. -/
import Derived.Test.YtmelcnnpjooocaaIriL
namespace Go.Proofs.Ytmelcnnpjooocaa
open Go.RowKit
set_option linter.unusedVariables false

def bsV (lm l3 : List UInt8) : List Value := [.string ⟨#[104, 116, 116, 112, 58, 47, 47, 97, 47, 98, 47, 99, 47, 100, 59, 112, 63, 113]⟩, .string ⟨#[104, 116, 116, 112, 58, 47, 47, 97]⟩, .string (B lm), .string (B l3), .string ⟨#[]⟩]
def rsV (ln l2 : List UInt8) : List Value := [.string (B ln), .string (B l2), .string ⟨#[]⟩]
def ResAt (W g1 g2 : Nat) (lm l3 ln l2 : List UInt8) (w wr : World) : Prop := Blk wr g1 (bsV lm l3) 9 ∧ Blk wr g2 (rsV ln l2) 9 ∧ Below W w wr ∧ W ≤ wr.heap.size
theorem ResAt.new {W g1 g2 : Nat} {lm l3 ln l2 : List UInt8} {w wr w' : World} (h : ResAt W g1 g2 lm l3 ln l2 w wr) (hb : Below wr.heap.size wr w') : ResAt W g1 g2 lm l3 ln l2 w w' :=
  ⟨h.1.chg (Chg.new hb NoFp) (fun h => h), h.2.1.chg (Chg.new hb NoFp) (fun h => h), h.2.2.1.trans (hb.mono h.2.2.2), Nat.le_trans h.2.2.2 hb.size⟩
theorem bs_row (lm l3 : List UInt8) (h1 : lm.length ≤ 100) (h2 : l3.length ≤ 100) (i : Nat) (hi : i < 5) : ∃ L : List UInt8, L.length ≤ 1000 ∧ (bsV lm l3)[i]? = some (.string (B L)) := by
  rcases (show i = 0 ∨ i = 1 ∨ i = 2 ∨ i = 3 ∨ i = 4 by omega) with h | h | h | h | h <;> subst h
  · exact ⟨[104, 116, 116, 112, 58, 47, 47, 97, 47, 98, 47, 99, 47, 100, 59, 112, 63, 113], by decide, rfl⟩
  · exact ⟨[104, 116, 116, 112, 58, 47, 47, 97], by decide, rfl⟩
  · exact ⟨lm, by omega, rfl⟩
  · exact ⟨l3, by omega, rfl⟩
  · exact ⟨[], by decide, rfl⟩
theorem rs_row (ln l2 : List UInt8) (h1 : ln.length ≤ 100) (h2 : l2.length ≤ 100) (i : Nat) (hi : i < 3) : ∃ L : List UInt8, L.length ≤ 1000 ∧ (rsV ln l2)[i]? = some (.string (B L)) := by
  rcases (show i = 0 ∨ i = 1 ∨ i = 2 by omega) with h | h | h <;> subst h
  · exact ⟨ln, by omega, rfl⟩
  · exact ⟨l2, by omega, rfl⟩
  · exact ⟨[], by decide, rfl⟩

set_option maxRecDepth 100000 in
set_option maxHeartbeats 4000000 in
theorem iriResolves_walk (a0 : Option Addr) (len0 cap0 : Nat) (z0 : List Int) (a1 : Option Addr) (len1 cap1 : Nat) (z1 : List Int) (a2 : ByteArray) (a3 : ByteArray) (w : World) (w0 : IsRow .i64 w a0 len0 cap0 z0) (w1 : IsRow .i64 w a1 len1 cap1 z1) (w2 : a2.size ≤ maxLen) (w3 : a3.size ≤ maxLen) :
    Calls Try.prog 4 #[.slice a0 len0 cap0, .slice a1 len1 cap1, .string a2, .string a3] w fun e w' => e = .returned (.bool true) ∧ Below w.heap.size w w' := by
  obtain ⟨l2, rfl⟩ : ∃ l, a2 = B l := ⟨_, B_of a2⟩
  obtain ⟨l3, rfl⟩ : ∃ l, a3 = B l := ⟨_, B_of a3⟩
  rw [B_size] at w2 w3
  simp only [maxLen] at w2 w3
  have HR0 := hid w0
  have HR1 := hid w1
  clear w0 w1
  by_cases h100 : l2.length ≤ 100 ∧ l3.length ≤ 100
  case neg =>
    by_cases h2 : l2.length ≤ 100
    · have h3 : ¬ l3.length ≤ 100 := fun h => h100 ⟨h2, h⟩
      clear h100
      go_enter Try.func4, Try.ntmps4
      go_wp2_with fail
      refine (known10_any _).mono ?_; rintro e1 w4 ⟨rfl, hb2⟩
      have B2 := hid hb2
      clear hb2
      go_wp2_with fail
      go_ret
      exact ⟨rfl, B2.out⟩
    · clear h100
      go_enter Try.func4, Try.ntmps4
      go_wp2_with fail
      refine (known10_any _).mono ?_; rintro e1 w4 ⟨rfl, hb2⟩
      have B2 := hid hb2
      clear hb2
      go_wp2_with fail
      go_ret
      exact ⟨rfl, B2.out⟩
  obtain ⟨h2, h3⟩ := h100
  go_enter Try.func4, Try.ntmps4
  go_wp2_with fail
  refine (known10_any _).mono ?_; rintro e1 w4 ⟨rfl, hb2⟩
  have B2 := hid hb2
  clear hb2
  go_wp2_with fail
  refine (ref_any a1 len1 cap1 z1 w4 (HR1.out.below B2.out)).mono ?_; rintro e1 w5 ⟨lm, hlm, rfl, hb3⟩
  have B3 := hid (B2.out.trans (hb3.mono B2.out.size))
  clear hb3 B2
  go_wp2_with fail
  have hk1 : Blk (w5.alloc (Obj.cells #[.string ⟨#[104, 116, 116, 112, 58, 47, 47, 97, 47, 98, 47, 99, 47, 100, 59, 112, 63, 113]⟩, .string ⟨#[104, 116, 116, 112, 58, 47, 47, 97]⟩, .string (B lm), .string (B l3), .string ⟨#[]⟩] 9)) w5.heap.size (bsV lm l3) 9 := heap_alloc_new w5 _
  have hb4 : Below w.heap.size w (w5.alloc (Obj.cells #[.string ⟨#[104, 116, 116, 112, 58, 47, 47, 97, 47, 98, 47, 99, 47, 100, 59, 112, 63, 113]⟩, .string ⟨#[104, 116, 116, 112, 58, 47, 47, 97]⟩, .string (B lm), .string (B l3), .string ⟨#[]⟩] 9)) := B3.out.alloc B3.out.size _
  generalize w5.alloc (Obj.cells #[.string ⟨#[104, 116, 116, 112, 58, 47, 47, 97, 47, 98, 47, 99, 47, 100, 59, 112, 63, 113]⟩, .string ⟨#[104, 116, 116, 112, 58, 47, 47, 97]⟩, .string (B lm), .string (B l3), .string ⟨#[]⟩] 9) = w6 at hk1 hb4 ⊢
  have K1 := hid hk1
  have B4 := hid hb4
  clear hk1 hb4 B3
  generalize w5.heap.size = g1 at K1 ⊢
  refine (ref_any a0 len0 cap0 z0 w6 (HR0.out.below B4.out)).mono ?_; rintro e1 w7 ⟨ln, hln, rfl, hb5⟩
  have K2 := hid (K1.out.chg (Chg.new hb5 NoFp) (fun h => h))
  have B5 := hid (B4.out.trans (hb5.mono B4.out.size))
  clear hb5 B4 K1
  go_wp2_with fail
  have RS : Hid (ResAt w.heap.size g1 w7.heap.size lm l3 ln l2 w (w7.alloc (Obj.cells #[.string (B ln), .string (B l2), .string ⟨#[]⟩] 9))) := hid ⟨K2.out.chg (Chg.alloc NoFp _ _) (fun h => h), heap_alloc_new w7 _, B5.out.alloc B5.out.size _, Nat.le_trans B5.out.size (by simp)⟩
  generalize w7.alloc (Obj.cells #[.string (B ln), .string (B l2), .string ⟨#[]⟩] 9) = w8 at RS ⊢
  generalize w7.heap.size = g2 at RS ⊢
  clear K2 B5
  go_loopw [11] (fun i wr => ∃ j : Nat, j ≤ 5 ∧ i = .int .i64 j ∧ ResAt w.heap.size g1 g2 lm l3 ln l2 w wr) (fun i _ => 6 - (intOf i).toNat)
  case atStart => exact ⟨0, Nat.zero_le _, rfl, RS.out⟩
  case round =>
    obtain ⟨j, hj, rfl, hsp⟩ := hrel
    have S1 := hid hsp
    clear hsp RS
    by_cases hlt : j < 5
    · obtain ⟨LB, hLB, hLe⟩ := bs_row lm l3 (by omega) h3 j hlt
      have HLE := hid hLe
      clear hLe
      have hj5 : (j : Int) < 5 := by omega
      go_wp2_with fail
      go_loopw [12] (fun i wr => ∃ k : Nat, k ≤ 3 ∧ i = .int .i64 k ∧ ResAt w.heap.size g1 g2 lm l3 ln l2 w wr) (fun i _ => 4 - (intOf i).toNat)
      case atStart => exact ⟨0, Nat.zero_le _, rfl, S1.out⟩
      case round =>
        obtain ⟨k, hk, rfl, hsp⟩ := hrel
        have S2 := hid hsp
        clear hsp S1
        by_cases hlk : k < 3
        · obtain ⟨LR, hLR, hLr⟩ := rs_row ln l2 (by omega) h2 k hlk
          have C1 := hid ((Blk.cell S2.out.1 j).trans HLE.out)
          have C2 := hid ((Blk.cell S2.out.2.1 k).trans hLr)
          have HLR := hid hLr
          clear hLr
          go_wp2_with fail
          refine wp_region_plan (fun w' => w'.cell? ⟨g1, j, none⟩ = some (.string (B LB)) ∧ w'.cell? ⟨g2, k, none⟩ = some (.string (B LR))) (fun j => !([8, 17].contains j)) (fun _ => false)
            (.of [0, 1, 2, 3, 4, 5, 6, 7, 9, 10, 11, 12, 13, 14, 15, 16, 8, 17, 18]) (by kernel_rfl) (by kernel_rfl) rfl (by kernel_rfl) (by kernel_rfl) ⟨C1.out, C2.out⟩ ?_
          apply wpPlan_val
          case ho => rfl
          case hst => rfl
          case hw => rfl
          case hv => intro w' hS; go_simp; first | done | rfl
          intro K hK
          go_simp
          refine hK _ ?_
          clear hK K
          apply wpPlan_val
          case ho => rfl
          case hst => rfl
          case hw => rfl
          case hv => intro w' hS; go_simp; first | done | rfl
          intro K hK
          go_simp
          refine hK _ ?_
          clear hK K
          apply wpPlan_val
          case ho => rfl
          case hst => rfl
          case hw => rfl
          case hv => intro w' hS; go_simp; first | done | rfl
          intro K hK
          go_simp
          refine hK _ ?_
          clear hK K
          apply wpPlan_val
          case ho => rfl
          case hst => rfl
          case hw => rfl
          case hv => intro w' hS; obtain ⟨c0, c1⟩ := hS; go_simp; first | done | rfl
          intro K hK
          go_simp
          refine hK _ ?_
          clear hK K
          apply wpPlan_val
          case ho => rfl
          case hst => rfl
          case hw => rfl
          case hv => intro w' hS; go_simp; first | done | rfl
          intro K hK
          go_simp
          refine hK _ ?_
          clear hK K
          apply wpPlan_val
          case ho => rfl
          case hst => rfl
          case hw => rfl
          case hv => intro w' hS; go_simp; first | done | rfl
          intro K hK
          go_simp
          refine hK _ ?_
          clear hK K
          apply wpPlan_val
          case ho => rfl
          case hst => rfl
          case hw => rfl
          case hv => intro w' hS; go_simp; first | done | rfl
          intro K hK
          go_simp
          refine hK _ ?_
          clear hK K
          apply wpPlan_val
          case ho => rfl
          case hst => rfl
          case hw => rfl
          case hv => intro w' hS; obtain ⟨c0, c1⟩ := hS; go_simp; first | done | rfl
          intro K hK
          go_simp
          refine hK _ ?_
          clear hK K
          apply wpPlan_val
          case ho => rfl
          case hst => rfl
          case hw => rfl
          case hv => intro w' hS; go_simp; first | done | rfl
          intro K hK
          go_simp
          refine hK _ ?_
          clear hK K
          apply wpPlan_val
          case ho => rfl
          case hst => rfl
          case hw => rfl
          case hv => intro w' hS; go_simp; first | done | rfl
          intro K hK
          go_simp
          refine hK _ ?_
          clear hK K
          apply wpPlan_val
          case ho => rfl
          case hst => rfl
          case hw => rfl
          case hv => intro w' hS; go_simp; first | done | rfl
          intro K hK
          go_simp
          refine hK _ ?_
          clear hK K
          apply wpPlan_val
          case ho => rfl
          case hst => rfl
          case hw => rfl
          case hv => intro w' hS; obtain ⟨c0, c1⟩ := hS; go_simp; first | done | rfl
          intro K hK
          go_simp
          refine hK _ ?_
          clear hK K
          apply wpPlan_val
          case ho => rfl
          case hst => rfl
          case hw => rfl
          case hv => intro w' hS; go_simp; first | done | rfl
          intro K hK
          go_simp
          refine hK _ ?_
          clear hK K
          apply wpPlan_val
          case ho => rfl
          case hst => rfl
          case hw => rfl
          case hv => intro w' hS; go_simp; first | done | rfl
          intro K hK
          go_simp
          refine hK _ ?_
          clear hK K
          apply wpPlan_val
          case ho => rfl
          case hst => rfl
          case hw => rfl
          case hv => intro w' hS; go_simp; first | done | rfl
          intro K hK
          go_simp
          refine hK _ ?_
          clear hK K
          apply wpPlan_val
          case ho => rfl
          case hst => rfl
          case hw => rfl
          case hv => intro w' hS; obtain ⟨c0, c1⟩ := hS; go_simp; first | done | rfl
          intro K hK
          go_simp
          refine hK _ ?_
          clear hK K
          refine wpPlan_list rfl rfl rfl (fun K hK => ?_)
          refine wpList_step (fun K2 hK2 => ?_)
          go_simp
          refine (iResolve_any LB LR _ hLB hLR).mono ?_
          rintro e1 w9 ⟨rfl, hb7⟩
          have S3 := hid (ResAt.new (wr := wr.drew) (S2.out.new (Below.refl _ _).drew) hb7)
          have S3c := hid (And.intro ((Blk.cell S3.out.1 j).trans HLE.out) ((Blk.cell S3.out.2.1 k).trans HLR.out))
          clear hb7
          go_simp
          refine hK2 _ _ ?_
          clear hK2 K2
          simp only [wpList]
          refine hK _ _ (fun _ => S3c.out) ?_
          clear hK K
          refine wpPlan_list rfl rfl rfl (fun K hK => ?_)
          refine wpList_step (fun K2 hK2 => ?_)
          go_simp
          refine (xResolve_any LB LR _ hLB hLR).mono ?_
          rintro e1 w10 ⟨rfl, hb7⟩
          have S4 := hid (ResAt.new (wr := w9) S3.out hb7)
          have S4c := hid (And.intro ((Blk.cell S4.out.1 j).trans HLE.out) ((Blk.cell S4.out.2.1 k).trans HLR.out))
          clear hb7
          go_simp
          refine hK2 _ _ ?_
          clear hK2 K2
          simp only [wpList]
          refine hK _ _ (fun _ => S4c.out) ?_
          clear hK K
          apply wpPlan_val
          case ho => rfl
          case hst => rfl
          case hw => rfl
          case hv => intro w' hS; go_simp; first | done | rfl
          intro K hK
          go_simp
          refine hK _ ?_
          clear hK K
          refine wpPlan_nil ?_
          simp only [Qn]
          go_wp2_with fail
          go_roundw
          case rel => exact ⟨k + 1, by omega, by go_num, S4.out⟩
          case measure => simp [intOf]; omega
        · go_wp2_with fail
          go_roundw
          case rel => exact ⟨j + 1, by omega, by go_num, S2.out⟩
          case measure => simp [intOf]; omega
    · go_wp2_with fail
      go_ret
      exact ⟨rfl, S1.out.2.2.1⟩
end Go.Proofs.Ytmelcnnpjooocaa
