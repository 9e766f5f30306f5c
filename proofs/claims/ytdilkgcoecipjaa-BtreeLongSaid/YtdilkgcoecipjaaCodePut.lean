/- code.put: so many bytes of a number, laid behind others, in new memory. -/
import Derived.Test.YtdilkgcoecipjaaRows
import Derived.Test.YtdilkgcoecipjaaU8
import Derived.Test.YtdilkgcoecipjaaHeap
import Derived.Outline
namespace Go.Proofs.Ytdilkgcoecipjaa
open Go.RowKit
set_option linter.unusedVariables false


theorem put_any (v : Value) (l : List UInt8) (n : Nat) (u : Int) (w : World) (hv : Bs w v l) (hl : l.length ≤ 1000000) (hn : n ≤ 8) (hu0 : 0 ≤ u) (hu1 : u < 2 ^ 64) :
    Calls Try.prog 79 #[v, .int .u64 u, .int .i64 n] w fun e w' => ∃ r, e = .returned r ∧ Below w.heap.size w w' ∧ w'.ownsRow w.heap.size 5 1 r (l.length + n) (bv (l ++ le u n)) := by
  have hm : ∀ k, k ≤ 2000000 → k ≤ maxLen := by intro k hk; simp only [maxLen]; omega
  have HU := hid hu1; clear hu1
  have HM := hid hm; clear hm
  go_enter Try.func79, Try.ntmps79
  go_wp2
  refine wp_scope_goto 0 (fun d a wr => ∃ (k : Nat) (o u9 u10 u11 u12 u13 u14 u15 u16 u17 u18 u19 u20 u21 u22 u23 : Value), d = n - k ∧ k ≤ n ∧ Below w.heap.size w wr ∧ wr.ownsRow w.heap.size 5 1 o (l.length + k) (bv (l ++ le u k)) ∧
     a = ⟨#[v, .int .u64 u, .int .i64 n, undef, undef, undef, Value.slice none 0 0, o, .int .i64 k, u9, u10, u11, u12, u13, u14, u15, u16, u17, u18, u19, u20, u21, u22, u23, undef, undef], []⟩) rfl ?pass ?first
  case first =>
    intro K hK
    go_wp2_with (at_builtin; refine wpList_append_rd rfl _ _ 30 rfl w.heap.size 5 _ 1 1 Try.underlying30 infoU8 rfl (by decide) _ 0 [] rfl (World.ownsRow_nil _ _ _ _) _ _ _ rfl hv (bv_one _) (HM.out _ (by omega)) (by omega) (Nat.le_refl _) ?_; intro pp cc w1 hown1 hg1 hb1)
    go_step3
    simp only [Exit.then]
    rename_i hK'
    refine hK' _ _ (hK n _ _ ⟨0, _, _, _, _, _, _, _, _, _, _, _, _, _, _, _, _, rfl, Nat.zero_le _, ?_, ?_, rfl⟩)
    · exact (Below.refl _ _).grown hg1 (Nat.le_refl _) (by intro k hk; cases hk)
    · simpa [le] using hown1
  case pass =>
    rintro d a wr ⟨k, o, u9, u10, u11, u12, u13, u14, u15, u16, u17, u18, u19, u20, u21, u22, u23, rfl, hk, hb, hown, rfl⟩ K hK
    have HK := hid hK; clear hK
    by_cases hlt : k < n
    · go_wp2_with (at_builtin; refine wpList_append_rd rfl _ _ 30 rfl w.heap.size 5 _ 1 1 Try.underlying30 infoU8 rfl (by decide) _ _ _ rfl (hown.alloc _) _ 1 _ rfl (Rd.fresh1 _ _ _) (by simp [Value.oneCell']) (HM.out _ (by omega)) (by omega) (Nat.le_trans hb.size (by simp)) ?_; intro pp cc w1 hown1 hg1 hb1)
      go_step3
      simp only [Exit.then, Exit.jump, true_and]
      refine HK.out (n - (k + 1)) _ _ (by omega) ⟨k + 1, _, _, _, _, _, _, _, _, _, _, _, _, _, _, _, _, rfl, by omega, ?_, ?_, rfl⟩
      · refine (hb.alloc hb.size _).grown hg1 (Nat.le_trans hb.size (by simp)) ?_
        intro k hk
        exact (hown.lt k hk).1
      · rw [bv_append, le_succ, ← List.append_assoc, ← bv_append]; exact hown1
    · obtain rfl : k = n := by omega
      go_wp2_with (at_builtin; refine wpList_append_rd rfl _ _ 30 rfl w.heap.size 5 _ 1 1 Try.underlying30 infoU8 rfl (by decide) _ 0 [] rfl (World.ownsRow_nil _ _ _ _) _ _ _ rfl (Rd.of_own hown) (bv_one _) (HM.out _ (by omega)) (by omega) hb.size ?_; intro pp cc w1 hown1 hg1 hb1)
      rw [Exit.jump_ret]
      go_ret
      refine ⟨_, rfl, hb.grown hg1 hb.size (by intro k hk; cases hk), ?_⟩
      simpa using hown1
end Go.Proofs.Ytdilkgcoecipjaa
