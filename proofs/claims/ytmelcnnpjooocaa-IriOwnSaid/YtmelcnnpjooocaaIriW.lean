/- iri: upto, Split. -/
import Derived.Test.YtmelcnnpjooocaaIri
import Derived.Test.YtmelcnnpjooocaaShelf
import Derived.StillTailTactics
namespace Go.Proofs.Ytmelcnnpjooocaa
open Go.RowKit
set_option linter.unusedVariables false

theorem hp_any (l p : List UInt8) (w : World) : Calls Try.prog 15 #[.string (B l), .string (B p)] w fun e w' => e = .returned (.bool (hp p l)) ∧ w = w' :=
  (Try.strings_HasPrefix (B l) (B p) w).mono fun e w' h => ⟨by rw [h.1, B_data, B_data, hp_lib], h.2.symm⟩
theorem ib_any (st : List UInt8) (c : UInt8) (w : World) : Calls Try.prog 23 #[.string (B st), .int .u8 (c.toNat : Int)] w fun e w' => e = .returned (.int .i64 (Go.Lib.indexByte st c)) ∧ w = w' :=
  (Try.strings_IndexByte (B st) (c.toNat : Int) w).mono fun e w' h => ⟨by rw [h.1, B_data]; simp, h.2.symm⟩
theorem li_any (l : List UInt8) (w : World) (h : l.length ≤ 1000000) : Calls Try.prog 26 #[.string (B l), .int .u8 47] w fun e w' => e = .returned (.int .i64 (last l)) ∧ w = w' :=
  (Try.strings_LastIndexByte (B l) 47 (by rw [B_size]; omega) w).mono fun e w' h => ⟨by rw [h.1, last_lib], h.2.symm⟩

set_option maxRecDepth 100000 in
theorem upto_any (l st : List UInt8) (w : World) (hl : l.length ≤ 1000000) :
    Calls Try.prog 14 #[.string (B l), .string (B st)] w fun e w' => e = .returned (.tuple #[.string (B (l.take (up st l))), .string (B (l.drop (up st l)))]) ∧ Below w.heap.size w w' := by
  go_enter Try.func14, Try.ntmps14
  go_wp2_with fail
  refine wp_scope_goto 0 (fun dd a wr => ∃ (k : Nat) (u7 u8 u9 u10 u11 u12 u13 u14 u15 u16 u17 u18 u19 u20 : Value), dd = l.length - k ∧ k ≤ l.length ∧ wr = w ∧ (∀ j, j < k → ∃ d, l[j]? = some d ∧ st.contains d = false) ∧
     a = ⟨#[.string (B l), .string (B st), undef, undef, .string ⟨#[]⟩, .string ⟨#[]⟩, .int .i64 k, u7, u8, u9, u10, u11, u12, u13, u14, u15, u16, u17, u18, u19, u20, undef, undef, undef, undef, undef, undef], []⟩) rfl ?pass ?first
  case first =>
    intro K hK
    go_wp2_with fail
    refine wp_label ?_
    simp only [Exit.then]
    rename_i hK'
    exact hK' _ _ (hK _ _ _ ⟨0, _, _, _, _, _, _, _, _, _, _, _, _, _, _, rfl, Nat.zero_le _, rfl, fun j hj => by omega, rfl⟩)
  case pass =>
    rintro dd a wr ⟨k, u7, u8, u9, u10, u11, u12, u13, u14, u15, u16, u17, u18, u19, u20, rfl, hk, rfl, hf, rfl⟩ K hK
    have HK := hid hK; clear hK
    have HF := hid hf; clear hf
    by_cases hlt : k < l.length
    · obtain ⟨c, hc⟩ : ∃ c, l[k]'hlt = c := ⟨_, rfl⟩
      have hc2 := hid (show l[k]? = some c by rw [List.getElem?_eq_getElem hlt, hc])
      go_wp2_with fail
      refine (ib_any st c _).mono ?_; rintro e1 wx ⟨rfl, hw⟩
      subst hw
      by_cases hin : st.contains c = true
      · have hneg : ¬ Go.Lib.indexByte st c < 0 := fun h => by rw [(indexByte_neg st c).1 h] at hin; cases hin
        have HIN := hid hin
        clear hin
        go_wp2_with fail
        have hup : up st l = k := up_step HF.out hc2.out HIN.out
        go_still_tail 7, (by kernel_rfl)
        go_wp2_with fail
        rw [Exit.jump_ret]
        go_ret2
        rw [hup]
        exact ⟨rfl, below_drewN (Below.refl _ _) 1⟩
      · have hneg : Go.Lib.indexByte st c < 0 := (indexByte_neg st c).2 (by simpa using hin)
        have HIN := hid hin
        clear hin
        go_wp2_with fail
        refine wp_goto ?_
        simp only [Exit.then, Exit.jump, true_and]
        refine HK.out (l.length - (k + 1)) _ _ (by omega) ⟨k + 1, _, _, _, _, _, _, _, _, _, _, _, _, _, _, rfl, by omega, rfl, fun j hj => ?_, by go_num⟩
        by_cases hjk : j = k
        · subst hjk
          exact ⟨c, hc2.out, by simpa using HIN.out⟩
        · exact HF.out j (by omega)
    · have hkl : k = l.length := by omega
      go_wp2_with fail
      have hup : up st l = l.length := up_all (fun j hj => HF.out j (by omega))
      go_still_tail 7, (by kernel_rfl)
      go_wp2_with fail
      rw [Exit.jump_ret]
      go_ret2
      rw [hup]
      exact ⟨by simp; rfl, below_drewN (Below.refl _ _) 1⟩
end Go.Proofs.Ytmelcnnpjooocaa
