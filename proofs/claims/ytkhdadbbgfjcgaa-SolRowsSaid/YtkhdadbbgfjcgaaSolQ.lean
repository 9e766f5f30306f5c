/- quoted texts, terms as texts (printed by gen_solquoted.py). -/
import Derived.Test.YtkhdadbbgfjcgaaSolM
import Derived.Test.YtkhdadbbgfjcgaaSolB
import Derived.Laws.DeepStrings4
namespace Go.Proofs.Ytkhdadbbgfjcgaa
open Go.RowKit
set_option linter.unusedVariables false

def esc (c : UInt8) : List UInt8 := if c = 9 then [92, 116] else if c = 10 then [92, 110] else if c = 13 then [92, 114] else if c = 34 ∨ c = 92 then [92, c] else [c]
def qt (l : List UInt8) : List UInt8 := 34 :: l.flatMap esc
def quotedP (l : List UInt8) : List UInt8 := qt l ++ [34]
theorem esc_len (c : UInt8) : (esc c).length ≤ 2 := by unfold esc; split; simp; split; simp; split; simp; split <;> simp
theorem flat_len : ∀ l : List UInt8, (l.flatMap esc).length ≤ 2 * l.length
  | [] => by simp
  | c :: l => by
    have := esc_len c
    have := flat_len l
    simp only [List.flatMap_cons, List.length_append, List.length_cons]
    omega
theorem qt_len (l : List UInt8) : (qt l).length ≤ 2 * l.length + 1 := by unfold qt; have := flat_len l; simp only [List.length_cons]; omega
theorem quotedP_len (l : List UInt8) : (quotedP l).length ≤ 2 * l.length + 2 := by unfold quotedP; have := qt_len l; rw [List.length_append]; simp only [List.length_cons, List.length_nil]; omega
theorem qt_succ {l : List UInt8} {i : Nat} {c : UInt8} (h : l[i]? = some c) {x : List UInt8} (hx : esc c = x) : qt (l.take (i + 1)) = qt (l.take i) ++ x := by
  subst hx
  unfold qt
  rw [List.take_add_one, h]
  simp

set_option maxRecDepth 100000 in
set_option maxHeartbeats 4000000 in
theorem quoted_any (l : List UInt8) (w : World) (hl : l.length ≤ 10000) :
    Calls Try.prog 56 #[.string (B l)] w fun e w' => e = .returned (.string (B (quotedP l))) ∧ Below w.heap.size w w' := by
  go_enter Try.func56, Try.ntmps56
  go_wp2_with fail
  refine wp_scope_goto 0 (fun dd act wr => ∃ (i : Nat) (u5 u6 u7 u8 u9 u10 u11 u12 u13 u14 u15 u16 u17 u18 u19 u20 u21 u22 u23 u24 u25 u26 u27 u28 u29 u30 u31 u32 u33 : Value), dd = l.length - i ∧ i ≤ l.length ∧ Hid (Bl wr w.heap.size w.heap.size (qt (l.take i))) ∧ Hid (Below w.heap.size w wr) ∧
     act = ⟨#[.string (B l), undef, .string ⟨#[]⟩, .pointer (some ⟨w.heap.size, 0, none⟩), .int .i64 (i : Int), u5, u6, u7, u8, u9, u10, u11, u12, u13, u14, u15, u16, u17, u18, u19, u20, u21, u22, u23, u24, u25, u26, u27, u28, u29, u30, u31, u32, u33], []⟩) rfl ?pass ?first
  case first =>
    intro K hK
    go_wp2_with fail
    have hw0 := Bl.fresh w
    have hb0 := (Below.refl w.heap.size w).alloc (Nat.le_refl _) (.cells #[.pointer none, .slice none 0 0] TB)
    generalize w.alloc (.cells #[.pointer none, .slice none 0 0] TB) = w0 at hw0 hb0 ⊢
    have hs0 := hb0.size
    have HB0 := hid hb0
    refine (writeByte_any w.heap.size w.heap.size [] 34 w0 hw0 (by simp) hs0).mono ?_; rintro e1 w1 ⟨rfl, h1, hb1⟩
    have B1 := hid h1
    have Z1 := hid (hb0.trans hb1)
    clear h1 hb1 hw0 hb0
    go_wp2_with fail
    refine wp_label ?_
    simp only [Exit.then]
    rename_i hK'
    exact hK' _ _ (hK _ _ _ ⟨0, _, _, _, _, _, _, _, _, _, _, _, _, _, _, _, _, _, _, _, _, _, _, _, _, _, _, _, _, _, rfl, Nat.zero_le _, hid (by rw [List.take_zero]; exact B1.out), Z1, rfl⟩)
  case pass =>
    rintro dd act wr ⟨i, u5, u6, u7, u8, u9, u10, u11, u12, u13, u14, u15, u16, u17, u18, u19, u20, u21, u22, u23, u24, u25, u26, u27, u28, u29, u30, u31, u32, u33, rfl, hi, HO, HB, rfl⟩ K hK
    have HK := hid hK; clear hK
    have hsz := HB.out.size
    have hql := qt_len (l.take i)
    rw [List.length_take] at hql
    by_cases hlt : i < l.length
    · have hne : ¬ (i : Int) = (l.length : Int) := by omega
      have hlt2 : (i : Int) < (l.length : Int) := by omega
      obtain ⟨c, hc⟩ : ∃ c, l[i]'hlt = c := ⟨_, rfl⟩
      have hi2 : l[i]? = some c := by rw [List.getElem?_eq_getElem hlt, hc]
      by_cases c9 : c = 9
      · subst c9
        go_wp2_with fail
        refine (writeString_any w.heap.size w.heap.size _ [92, 116] wr HO.out (by simp only [List.length_cons, List.length_nil]; omega) hsz).mono ?_; rintro e1 wx ⟨rfl, h1, hb1⟩
        have BW := hid h1
        have BZ := hid (HB.out.trans hb1)
        clear h1 hb1
        go_wp2_with fail
        refine wp_goto ?_
        simp only [Exit.jump, true_and]
        refine HK.out (l.length - (i + 1)) _ _ (by omega) ⟨i + 1, _, _, _, _, _, _, _, _, _, _, _, _, _, _, _, _, _, _, _, _, _, _, _, _, _, _, _, _, _, rfl, by omega, hid ?_, BZ, by go_num⟩
        rw [qt_succ hi2 (by rfl)]
        exact BW.out
      · by_cases c10 : c = 10
        · subst c10
          go_wp2_with fail
          refine (writeString_any w.heap.size w.heap.size _ [92, 110] wr HO.out (by simp only [List.length_cons, List.length_nil]; omega) hsz).mono ?_; rintro e1 wx ⟨rfl, h1, hb1⟩
          have BW := hid h1
          have BZ := hid (HB.out.trans hb1)
          clear h1 hb1
          go_wp2_with fail
          refine wp_goto ?_
          simp only [Exit.jump, true_and]
          refine HK.out (l.length - (i + 1)) _ _ (by omega) ⟨i + 1, _, _, _, _, _, _, _, _, _, _, _, _, _, _, _, _, _, _, _, _, _, _, _, _, _, _, _, _, _, rfl, by omega, hid ?_, BZ, by go_num⟩
          rw [qt_succ hi2 (by rfl)]
          exact BW.out
        · by_cases c13 : c = 13
          · subst c13
            go_wp2_with fail
            refine (writeString_any w.heap.size w.heap.size _ [92, 114] wr HO.out (by simp only [List.length_cons, List.length_nil]; omega) hsz).mono ?_; rintro e1 wx ⟨rfl, h1, hb1⟩
            have BW := hid h1
            have BZ := hid (HB.out.trans hb1)
            clear h1 hb1
            go_wp2_with fail
            refine wp_goto ?_
            simp only [Exit.jump, true_and]
            refine HK.out (l.length - (i + 1)) _ _ (by omega) ⟨i + 1, _, _, _, _, _, _, _, _, _, _, _, _, _, _, _, _, _, _, _, _, _, _, _, _, _, _, _, _, _, rfl, by omega, hid ?_, BZ, by go_num⟩
            rw [qt_succ hi2 (by rfl)]
            exact BW.out
          · have n9 : ¬ (c.toNat : Int) = 9 := fun h => c9 (UInt8.toNat_inj.1 (show c.toNat = 9 by omega))
            have n10 : ¬ (c.toNat : Int) = 10 := fun h => c10 (UInt8.toNat_inj.1 (show c.toNat = 10 by omega))
            have n13 : ¬ (c.toNat : Int) = 13 := fun h => c13 (UInt8.toNat_inj.1 (show c.toNat = 13 by omega))
            by_cases cq : c = 34 ∨ c = 92
            · rcases cq with cq | cq
              · subst cq
                clear c9 c10 c13 n9 n10 n13
                go_wp2_with fail
                refine (writeByte_any w.heap.size w.heap.size _ 92 wr HO.out (by omega) hsz).mono ?_; rintro e1 wy ⟨rfl, h1, hb1⟩
                have BY := hid h1
                have BZ0 := hid (HB.out.trans hb1)
                have hszy := BZ0.out.size
                clear h1 hb1
                go_wp2_with fail
                refine (writeByte_any w.heap.size w.heap.size _ 34 wy BY.out (by simp only [List.length_append, List.length_cons, List.length_nil]; omega) hszy).mono ?_; rintro e1 wx ⟨rfl, h1, hb1⟩
                have BW := hid h1
                have BZ := hid (BZ0.out.trans hb1)
                clear h1 hb1
                go_wp2_with fail
                refine wp_goto ?_
                simp only [Exit.jump, true_and]
                refine HK.out (l.length - (i + 1)) _ _ (by omega) ⟨i + 1, _, _, _, _, _, _, _, _, _, _, _, _, _, _, _, _, _, _, _, _, _, _, _, _, _, _, _, _, _, rfl, by omega, hid ?_, BZ, by go_num⟩
                rw [qt_succ hi2 (show esc 34 = [92, 34] by rfl)]
                have h := BW.out
                rw [List.append_assoc] at h
                exact h
              · subst cq
                clear c9 c10 c13 n9 n10 n13
                go_wp2_with fail
                refine (writeByte_any w.heap.size w.heap.size _ 92 wr HO.out (by omega) hsz).mono ?_; rintro e1 wy ⟨rfl, h1, hb1⟩
                have BY := hid h1
                have BZ0 := hid (HB.out.trans hb1)
                have hszy := BZ0.out.size
                clear h1 hb1
                go_wp2_with fail
                refine (writeByte_any w.heap.size w.heap.size _ 92 wy BY.out (by simp only [List.length_append, List.length_cons, List.length_nil]; omega) hszy).mono ?_; rintro e1 wx ⟨rfl, h1, hb1⟩
                have BW := hid h1
                have BZ := hid (BZ0.out.trans hb1)
                clear h1 hb1
                go_wp2_with fail
                refine wp_goto ?_
                simp only [Exit.jump, true_and]
                refine HK.out (l.length - (i + 1)) _ _ (by omega) ⟨i + 1, _, _, _, _, _, _, _, _, _, _, _, _, _, _, _, _, _, _, _, _, _, _, _, _, _, _, _, _, _, rfl, by omega, hid ?_, BZ, by go_num⟩
                rw [qt_succ hi2 (show esc 92 = [92, 92] by rfl)]
                have h := BW.out
                rw [List.append_assoc] at h
                exact h
            · have n34 : ¬ (c.toNat : Int) = 34 := fun h => cq (.inl (UInt8.toNat_inj.1 (show c.toNat = 34 by omega)))
              have n92 : ¬ (c.toNat : Int) = 92 := fun h => cq (.inr (UInt8.toNat_inj.1 (show c.toNat = 92 by omega)))
              have hesc : esc c = [c] := by unfold esc; rw [if_neg c9, if_neg c10, if_neg c13, if_neg cq]
              have HE := hid hesc
              clear hesc cq c9 c10 c13
              go_wp2_with fail
              refine (writeByte_any w.heap.size w.heap.size _ c wr HO.out (by omega) hsz).mono ?_; rintro e1 wx ⟨rfl, h1, hb1⟩
              have BW := hid h1
              have BZ := hid (HB.out.trans hb1)
              clear h1 hb1
              go_wp2_with fail
              refine wp_goto ?_
              simp only [Exit.jump, true_and]
              refine HK.out (l.length - (i + 1)) _ _ (by omega) ⟨i + 1, _, _, _, _, _, _, _, _, _, _, _, _, _, _, _, _, _, _, _, _, _, _, _, _, _, _, _, _, _, rfl, by omega, hid ?_, BZ, by go_num⟩
              rw [qt_succ hi2 (by exact HE.out)]
              exact BW.out
    · have hil : i = l.length := by omega
      have hil2 : (i : Int) = (l.length : Int) := by omega
      have ht : l.take i = l := by rw [hil, List.take_length]
      rw [ht] at HO
      go_wp2_with fail
      refine (writeByte_any w.heap.size w.heap.size _ 34 wr HO.out (by have := qt_len l; omega) hsz).mono ?_; rintro e1 wy ⟨rfl, h1, hb1⟩
      have BY := hid h1
      have BZ0 := hid (HB.out.trans hb1)
      have hszy := BZ0.out.size
      clear h1 hb1
      go_wp2_with fail
      refine (string_any w.heap.size w.heap.size _ wy BY.out hszy).mono ?_; rintro e1 wx ⟨rfl, hb1⟩
      have BZ := hid (BZ0.out.trans hb1)
      clear hb1
      go_wp2_with fail
      try rw [Exit.jump_ret]
      go_ret
      exact ⟨rfl, BZ.out⟩

set_option maxRecDepth 100000 in
set_option maxHeartbeats 4000000 in
theorem rQuoted_any (l : List UInt8) (w : World) (hl : l.length ≤ 10000) :
    Calls Try.prog 61 #[.string (B l)] w fun e w' => e = .returned (.string (B (quotedP l))) ∧ w = w' := by
  go_enter Try.func61, Try.ntmps61
  go_wp2_with fail
  go_loopw [3, 4] (fun vo vi wr => ∃ i : Nat, vo = .string (B (qt (l.take i))) ∧ vi = .int .i64 i ∧ i ≤ l.length ∧ wr = w) (fun _ vi _ => l.length + 1 - (intOf vi).toNat)
  case atStart => exact ⟨0, rfl, rfl, Nat.zero_le _, rfl⟩
  case round =>
    obtain ⟨i, rfl, rfl, hi, rfl⟩ := hrel
    have hql := qt_len (l.take i)
    rw [List.length_take] at hql
    by_cases hlt : i < l.length
    · have hlt2 : (i : Int) < (l.length : Int) := by omega
      obtain ⟨c, hc⟩ : ∃ c, l[i]'hlt = c := ⟨_, rfl⟩
      have hi2 : l[i]? = some c := by rw [List.getElem?_eq_getElem hlt, hc]
      have hsl : (l.drop i).take 1 = [c] := by rw [List.drop_eq_getElem_cons hlt, hc]; rfl
      have hslice : (Instr.slice 9 (.string (B l)) (some (.int .i64 (i : Int))) (some (.int .i64 ((i : Int) + 1))) none).run Try.prog wr = .ok (.string (B [c])) wr := by
        rw [run_slice_string_if _ _ _ _ _ _ _ Try.underlying9, if_pos (by rw [B_size]; omega), if_pos (by omega), B_extract]
        rw [show ((i : Int) + 1).toNat - (i : Int).toNat = 1 by omega, show (i : Int).toNat = i by omega, hsl]
      clear hsl
      have HI2 := hid hi2
      by_cases c9 : c = 9
      · have v : (c.toNat : Int) = 9 := by rw [c9]; rfl
        have HE := hid (show esc c = [92, 116] by rw [c9]; rfl)
        clear c9
        go_wp2_with fail
        go_roundw
        case rel => exact ⟨i + 1, by rw [qt_succ HI2.out (show esc _ = [92, 116] from HE.out)], by go_num, by omega, by first | exact rfl | exact trivial⟩
        case measure => simp [intOf]; omega
      · by_cases c10 : c = 10
        · have v : (c.toNat : Int) = 10 := by rw [c10]; rfl
          have HE := hid (show esc c = [92, 110] by rw [c10]; rfl)
          clear c10
          go_wp2_with fail
          go_roundw
          case rel => exact ⟨i + 1, by rw [qt_succ HI2.out (show esc _ = [92, 110] from HE.out)], by go_num, by omega, by first | exact rfl | exact trivial⟩
          case measure => simp [intOf]; omega
        · by_cases c13 : c = 13
          · have v : (c.toNat : Int) = 13 := by rw [c13]; rfl
            have HE := hid (show esc c = [92, 114] by rw [c13]; rfl)
            clear c13
            go_wp2_with fail
            go_roundw
            case rel => exact ⟨i + 1, by rw [qt_succ HI2.out (show esc _ = [92, 114] from HE.out)], by go_num, by omega, by first | exact rfl | exact trivial⟩
            case measure => simp [intOf]; omega
          · have n9 : ¬ (c.toNat : Int) = 9 := fun h => c9 (UInt8.toNat_inj.1 (show c.toNat = 9 by omega))
            have n10 : ¬ (c.toNat : Int) = 10 := fun h => c10 (UInt8.toNat_inj.1 (show c.toNat = 10 by omega))
            have n13 : ¬ (c.toNat : Int) = 13 := fun h => c13 (UInt8.toNat_inj.1 (show c.toNat = 13 by omega))
            by_cases cq : c = 34 ∨ c = 92
            · rcases cq with cq | cq
              · have v : (c.toNat : Int) = 34 := by rw [cq]; rfl
                have HE := hid (show esc c = [92, c] by rw [cq]; rfl)
                clear cq
                clear c9 c10 c13 n9 n10 n13
                go_wp2_with fail
                go_roundw
                case rel => exact ⟨i + 1, by rw [qt_succ HI2.out (show esc _ = [92, c] from HE.out)], by go_num, by omega, by first | exact rfl | exact trivial⟩
                case measure => simp [intOf]; omega
              · have v : (c.toNat : Int) = 92 := by rw [cq]; rfl
                have HE := hid (show esc c = [92, c] by rw [cq]; rfl)
                clear cq
                clear c9 c10 c13 n9 n10 n13
                go_wp2_with fail
                go_roundw
                case rel => exact ⟨i + 1, by rw [qt_succ HI2.out (show esc _ = [92, c] from HE.out)], by go_num, by omega, by first | exact rfl | exact trivial⟩
                case measure => simp [intOf]; omega
            · have n34 : ¬ (c.toNat : Int) = 34 := fun h => cq (.inl (UInt8.toNat_inj.1 (show c.toNat = 34 by omega)))
              have n92 : ¬ (c.toNat : Int) = 92 := fun h => cq (.inr (UInt8.toNat_inj.1 (show c.toNat = 92 by omega)))
              have HE := hid (show esc c = [c] by unfold esc; rw [if_neg c9, if_neg c10, if_neg c13, if_neg cq])
              clear cq c9 c10 c13
              go_wp2_with fail
              go_roundw
              case rel => exact ⟨i + 1, by rw [qt_succ HI2.out (show esc _ = [c] from HE.out)], by go_num, by omega, by first | exact rfl | exact trivial⟩
              case measure => simp [intOf]; omega
    · have hil : i = l.length := by omega
      have hil2 : ¬ (i : Int) < (l.length : Int) := by omega
      have ht : l.take i = l := by rw [hil, List.take_length]
      rw [ht]
      have hq2 := qt_len l
      go_wp2_with fail
      go_ret
      exact ⟨rfl, rfl⟩

def termP (t : T4) : List UInt8 :=
  if t.1 = 1 then [60] ++ t.2.1 ++ [62] else if t.1 = 2 then [95, 58] ++ t.2.1 else if t.2.2.1 ≠ [] then quotedP t.2.1 ++ 64 :: t.2.2.1 else if t.2.2.2 ≠ [] then quotedP t.2.1 ++ 94 :: 94 :: 60 :: (t.2.2.2 ++ [62]) else quotedP t.2.1
theorem termP_len {t : T4} (h : OkT t) : (termP t).length ≤ 500 := by
  have h1 := quotedP_len t.2.1
  have h2 := h.s
  have h3 := h.l
  have h4 := h.y
  unfold termP
  repeat' split
  all_goals (try simp only [List.length_append, List.length_cons, List.length_nil]); omega
end Go.Proofs.Ytkhdadbbgfjcgaa
