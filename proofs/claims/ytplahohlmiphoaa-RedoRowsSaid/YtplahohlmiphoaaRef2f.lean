/- triadref2: New. -/
import Derived.Test.YtplahohlmiphoaaRef2e
namespace Go.Proofs.Ytplahohlmiphoaa
open Go.RowKit
set_option linter.unusedVariables false

theorem sliceInfo : (Try.prog.info? 26).map (fun i => (i.zero, i.size, i.bytes)) = some (some (.slice none 0 0), 1, 24) := by kernel_rfl

/-- where the loop of New is -/
def NewAt (B : Nat) (w : World) (r i : Nat) (sv : Value) (gs : List Nat) (wr : World) : Prop :=
  Blk wr r [sv, .slice none 0 0, .int .i64 0, .bool false, .int .i64 0] 77 ∧ wr.ownsRow B 26 1 sv i (gs.map rowV) ∧ gs.length = i ∧
  (∀ j g : Nat, gs[j]? = some g → Blk wr g (bv z512) 5 ∧ B ≤ g ∧ g ≠ r ∧ sv.ownBlock ≠ some g) ∧ (∀ g, sv.ownBlock = some g → g ≠ r ∧ B ≤ g) ∧ B ≤ r ∧ Below B w wr ∧ B ≤ w.heap.size

theorem new_step {B r i : Nat} {w wr w1 w2 w3 : World} {sv : Value} {gs : List Nat} {p' : Option Addr} {c' : Nat} (h : NewAt B w r i sv gs wr)
    (k1 : Below wr.heap.size wr w1) (m1 : Blk w1 wr.heap.size (bv z512) 5) (k2 : Below w1.heap.size w1 w2) (hl2 : w1.heap.size < w2.heap.size)
    (g3 : w2.grownBy w3 sv.ownBlock) (o3 : w3.ownsRow B 26 1 (.slice p' (i + 1) c') (i + 1) (gs.map rowV ++ [rowV wr.heap.size]))
    (q3 : (Value.slice p' (i + 1) c').ownBlock = sv.ownBlock ∨ (Value.slice p' (i + 1) c').ownBlock = some w2.heap.size) :
    NewAt B w r (i + 1) (.slice p' (i + 1) c') (gs ++ [wr.heap.size]) (w3.setCell ⟨r, 0, none⟩ (.slice p' (i + 1) c')) := by
  obtain ⟨h1, h2, h3, h4, h5, h6, h7, h8⟩ := h
  have hr := h1.lt
  have l1 := m1.lt
  have hB := h7.size
  have s3 := g3.size
  have cg := Chg.grown g3
  have c12 : Chg NoFp wr w2 := (Chg.new k1 NoFp).trans (Chg.new k2 NoFp) (fun _ _ h => h)
  have c13 : Chg (fun q => sv.ownBlock = some q) wr w3 := (c12.mono (fun _ _ h => h.elim)).trans cg (fun _ _ h => h)
  have cs := Chg.setCell (fp := fun q => q = r) w3 (a := ⟨r, 0, none⟩) rfl (.slice p' (i + 1) c')
  have hsv : ∀ g, sv.ownBlock = some g → g < wr.heap.size := fun g hg => by
    rcases h2.2 with ⟨e, _⟩ | ⟨g', cap, cur, e, _, e3, _⟩
    · rw [e] at hg; cases hg
    · rw [e] at hg
      have : g' = g := Option.some.inj hg
      rw [← this]; exact (Array.getElem?_eq_some_iff.1 e3).1
  have hown : ∀ g, (Value.slice p' (i + 1) c').ownBlock = some g → (sv.ownBlock = some g) ∨ g = w2.heap.size := fun g hg => by
    rcases q3 with q | q
    · exact .inl (q ▸ hg)
    · exact .inr (Option.some.inj (q.symm.trans hg)).symm
  have hd3 := h1.chg c13 (fun h => (h5 r h).1 rfl)
  have hd := hd3.set 0 (.slice p' (i + 1) c')
  refine ⟨hd, ?_, by simp [h3], fun j g hg => ?_, fun g hg => ?_, h6, ?_, h8⟩
  · rw [List.map_append]
    exact own_chg o3 cs (fun g hg h => by
      have h2 : g = r := h
      rcases hown g hg with e | e
      · exact (h5 g e).1 h2
      · omega)
  · by_cases hj : j < gs.length
    · rw [List.getElem?_append_left hj] at hg
      obtain ⟨q1, q2, q4, q5⟩ := h4 j g hg
      have hgl := q1.lt
      refine ⟨(q1.chg c13 (fun h => q5 h)).chg cs (fun h => q4 h), q2, q4, fun h => ?_⟩
      rcases hown g h with e | e
      · exact q5 e
      · omega
    · rw [List.getElem?_append_right (by omega)] at hg
      have hj0 : j - gs.length = 0 := by
        have := (List.getElem?_eq_some_iff.1 hg).1
        simp at this; omega
      rw [hj0] at hg
      obtain rfl : wr.heap.size = g := by simpa using hg
      refine ⟨(((show Blk w1 wr.heap.size _ _ from m1).chg (Chg.new k2 NoFp) (fun h => h)).chg cg (fun h => by have := hsv _ h; omega)).chg cs (fun h => by have h2 : wr.heap.size = r := h; omega), by omega, by omega, fun h => ?_⟩
      rcases hown _ h with e | e
      · have := hsv _ e; omega
      · omega
  · rcases hown g hg with e | e
    · exact h5 g e
    · exact ⟨by omega, by omega⟩
  · refine (h7.trans ((c13.below (B := B) (fun g hg => (h5 g hg).2) (by omega)))).setCell (p := ⟨r, 0, none⟩) h6 _

theorem NewAt.drew {B r i : Nat} {w wr : World} {sv : Value} {gs : List Nat} (h : NewAt B w r i sv gs wr) (k : Nat) : NewAt B w r i sv gs (wr.drewN k) := by
  obtain ⟨h1, h2, h3, h4, h5, h6, h7, h8⟩ := h
  have c := Chg.drewN NoFp wr k
  exact ⟨h1.chg c (fun h => h), own_chg h2 c (fun _ _ h => h), h3, fun j g hg => ⟨(h4 j g hg).1.chg c (fun h => h), (h4 j g hg).2⟩, h5, h6, below_drewN h7 k, h8⟩

theorem clampN_min (x : Int) : max 1 (min x 3000) = (clampN x : Int) := by unfold clampN; omega

set_option maxRecDepth 100000 in
set_option maxHeartbeats 1600000 in
theorem xNew_any (w : World) (x : Int) :
    Calls Try.prog 18 #[.int .i64 x] w fun e w' => ∃ d, e = .returned (.pointer (some ⟨d, 0, none⟩)) ∧ XDk w' d (fun k => w.heap.size ≤ k ∧ k < w'.heap.size) (clampN x) (dNew (clampN x)) ∧ Below w.heap.size w w' ∧ w.heap.size ≤ d := by
  have HM := hid (clampN_min x)
  have hc1 : 1 ≤ clampN x := by unfold clampN; omega
  have hc2 : clampN x ≤ 3000 := by unfold clampN; omega
  generalize clampN x = n at HM hc1 hc2 ⊢
  go_enter Try.func18, Try.ntmps18
  go_wp2_with fail
  go_loopw [4] (fun i wr => ∃ (j : Nat) (sv : Value) (gs : List Nat), j ≤ n ∧ i = .int .i64 j ∧ NewAt w.heap.size w w.heap.size j sv gs wr) (fun i _ => n + 1 - (intOf i).toNat)
  case atStart => exact ⟨0, .slice none 0 0, [], Nat.zero_le _, rfl, heap_alloc_new w _, World.ownsRow_nil _ _ _ _, rfl, (fun j g hg => by simp at hg), (fun g hg => by cases hg), Nat.le_refl _, (Below.refl _ _).alloc (Nat.le_refl _) _, Nat.le_refl _⟩
  case round =>
    obtain ⟨j, sv, gs, hj, rfl, hat⟩ := hrel
    have HA := hid hat
    clear hat
    by_cases hlt : j < n
    · have hlt2 : (j : Int) < max 1 (min x 3000) := by rw [HM.out]; omega
      generalize hr : w.heap.size = r at HA ⊢
      go_wp2_with fail
      have HR := hid hr
      clear hr
      refine wp_region_plan (fun w' => Blk w' r [sv, .slice none 0 0, .int .i64 0, .bool false, .int .i64 0] 77) (fun j => [0, 1, 2, 3, 4, 8, 9].contains j) (fun j => j == 10) (.of [0, 1, 2, 3, 4, 5, 6, 7, 8, 9, 10]) (by kernel_rfl) (by kernel_rfl) rfl (by kernel_rfl) (by kernel_rfl) ?_ ?_
      · exact HA.out.1.chg (Chg.drewN NoFp _ 1) (fun h => h)
      have HB : Hid (NewAt r w r j sv gs wr.drew) := hid (HA.out.drew 1)
      generalize wr.drew = wx at HB ⊢
      refine wpPlan_val (.pointer (some ⟨r, 0, none⟩)) rfl rfl rfl (fun w' hS => by go_simp) (fun K hK => ?_)
      go_simp
      refine hK _ ?_
      clear hK K
      refine wpPlan_val (.pointer (some ⟨r, 0, none⟩)) rfl rfl rfl (fun w' hS => by go_simp) (fun K hK => ?_)
      go_simp
      refine hK _ ?_
      clear hK K
      refine wpPlan_val (.pointer (some ⟨r, 0, none⟩)) rfl rfl rfl (fun w' hS => by go_simp) (fun K hK => ?_)
      go_simp
      refine hK _ ?_
      clear hK K
      refine wpPlan_val (.pointer (some ⟨r, 0, none⟩)) rfl rfl rfl (fun w' hS => by go_simp) (fun K hK => ?_)
      go_simp
      refine hK _ ?_
      clear hK K
      refine wpPlan_val (sv) rfl rfl rfl (fun w' hS => by obtain ⟨c0, c1, c2, c3, c4, f0, f1, f2, f3, f4⟩ := five_cells hS; go_simp) (fun K hK => ?_)
      go_simp
      refine hK _ ?_
      clear hK K
      refine wpPlan_list rfl rfl rfl (fun K hK => ?_)
      refine wpList_make_blk rfl _ _ 26 rfl 5 _ 1 1 Try.underlying26 infoU8 _ _ _ _ 512 rfl rfl rfl rfl (by omega) (by simp only [maxLen]; omega) ?_
      intro w1 hh hb1 hl1
      rw [made_bytes] at hh
      have M1 := hid hh
      have K1 := hid hb1
      have S1 := hid (HB.out.1.chg (Chg.new hb1 NoFp) (fun h => h))
      clear hh hb1 hl1
      simp only [wpList]
      refine hK _ _ (fun _ => S1.out) ?_
      clear hK K
      refine wpPlan_list rfl rfl rfl (fun K hK => ?_)
      refine wpList_step (fun K2 hK2 => ?_)
      go_simp
      refine hK2 _ _ ?_
      clear hK2 K2
      simp only [wpList]
      have hb2 := (Below.refl w1.heap.size w1).alloc (Nat.le_refl _) (.cells #[rowV wx.heap.size] 26)
      have S2 := hid (S1.out.chg (Chg.new hb2 NoFp) (fun h => h))
      refine hK _ _ (fun _ => S2.out) ?_
      clear hK K
      refine wpPlan_list rfl rfl rfl (fun K hK => ?_)
      have hown1 := own_chg HB.out.2.1 (Chg.new K1.out NoFp) (fun _ _ h => h)
      have hrl : r ≤ w1.heap.size := by have h1 := HB.out.1.lt; have h2 := K1.out.size; omega
      refine wpList_append_rd rfl _ _ 39 rfl r 26 _ 1 24 Try.underlying39 sliceInfo rfl (by decide) sv j (gs.map rowV) rfl (hown1.alloc _) _ 1 [rowV wx.heap.size] rfl (Rd.fresh1 _ _ _) (by simp [Value.oneCell', rowV]) (by simp only [maxLen]; omega) (by omega) (by simp; omega) ?_
      intro p' c' w3 hw3 hg3 ho3
      have hb2' := (Below.refl w1.heap.size w1).alloc (Nat.le_refl _) (.cells #[rowV wx.heap.size] 26)
      have hnew := new_step HB.out K1.out M1.out hb2' (by simp) hg3 hw3 ho3
      have HNEW := hid hnew
      have S3 := hid (S2.out.chg (Chg.grown hg3) (fun h => (HB.out.2.2.2.2.1 r h).1 rfl))
      clear hown1 hrl hw3 hg3 ho3 hb2' hnew
      simp only [wpList]
      refine hK _ _ (fun _ => S3.out) ?_
      clear hK K
      refine wpPlan_val (.pointer (some ⟨r, 0, none⟩)) rfl rfl rfl (fun w' hS => by go_simp) (fun K hK => ?_)
      go_simp
      refine hK _ ?_
      clear hK K
      refine wpPlan_val (.pointer (some ⟨r, 0, none⟩)) rfl rfl rfl (fun w' hS => by go_simp) (fun K hK => ?_)
      go_simp
      refine hK _ ?_
      clear hK K
      have hd3 := S3.out
      obtain ⟨c0, c1, c2, c3, c4, f0, f1, f2, f3, f4⟩ := five_cells hd3
      clear hd3
      refine wpPlan_list rfl rfl rfl (fun K hK => ?_)
      refine wpList_step (fun K2 hK2 => ?_)
      go_simp
      refine hK2 _ _ ?_
      clear hK2 K2
      simp only [wpList]
      refine hK _ _ (fun h => by cases h) ?_
      clear hK K
      refine wpPlan_nil ?_
      simp only [Qn]
      go_wp2_with fail
      go_roundw
      case rel => exact ⟨j + 1, _, _, by omega, by go_num, HNEW.out⟩
      case measure => simp [intOf]; omega
    · have hlt2 : ¬ (j : Int) < max 1 (min x 3000) := by rw [HM.out]; omega
      have hjn : j = n := by omega
      go_wp2_with fail
      go_ret
      obtain ⟨h1, h2, h3, h4, h5, h6, h7, h8⟩ := HA.out
      subst hjn
      refine ⟨_, rfl, ⟨sv, .slice none 0 0, gs, [], h1, ?_, World.ownsRow_nil _ _ _ _, h3, rfl, fun i g hg => ?_, (fun i g p hg => by simp at hg), fun g hg => ?_, (fun g hg => by cases hg), ⟨Nat.le_refl _, h1.lt⟩, (fun k hk => hk.2), dNew_ok hc1 hc2, rfl⟩, h7, Nat.le_refl _⟩
      · refine ⟨h2.1, ?_⟩
        rcases h2.2 with q | ⟨g, cap, cur, q1, q2, q3⟩
        · exact .inl q
        · exact .inr ⟨g, cap, cur, q1, Nat.zero_le _, q3⟩
      · obtain ⟨q1, q2, q3, q4⟩ := h4 i g hg
        have hi : i < j := by have := (List.getElem?_eq_some_iff.1 hg).1; omega
        have e : row (dNew j).kept i = z512 := row_zero hi
        rw [e]
        exact ⟨q1, ⟨q2, q1.lt⟩, q3, q4, fun h => by cases h⟩
      · have hl : g < wr.heap.size := by
          rcases h2.2 with ⟨e, _⟩ | ⟨g', cap, cur, e, _, e3, _⟩
          · rw [e] at hg; cases hg
          · rw [e] at hg
            have : g' = g := Option.some.inj hg
            rw [← this]; exact (Array.getElem?_eq_some_iff.1 e3).1
        exact ⟨(h5 g hg).1, ⟨(h5 g hg).2, hl⟩, fun h => by cases h⟩
end Go.Proofs.Ytplahohlmiphoaa
