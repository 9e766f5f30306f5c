/- btree: change.leaf: a key that is not there is set. btree: change.leaf: a key that is there is set. -/
import Derived.Test.YtdilkgcoecipjaaBtWa
import Derived.Test.YtdilkgcoecipjaaM10
namespace Go.Proofs.Ytdilkgcoecipjaa
open Go.RowKit Go.Maps
set_option linter.unusedVariables false

theorem ins_last {keys vals : List Tx} {key val : Tx} {ix nk : Nat} (hs0 : sizeP ⟨true, keys, vals, []⟩ ≤ 504) (hin : ix = nk) (hlk : keys.length = nk) (hlv : vals.length = nk) :
    sizeP ⟨true, (Nd.mk true (keys.take ix ++ key :: keys.drop ix) (vals.take ix ++ val :: vals.drop ix) []).keys.take (nk + 1 - 1), (Nd.mk true (keys.take ix ++ key :: keys.drop ix) (vals.take ix ++ val :: vals.drop ix) []).vals.take (nk + 1 - 1), []⟩ ≤ 504 := by
  subst hin
  have e : ∀ (l : List Tx) (x : Tx), l.length = ix → (l.take ix ++ x :: l.drop ix).take (ix + 1 - 1) = l := by
    intro l x hl
    rw [Nat.add_sub_cancel, List.take_of_length_le (l := l) (by omega), List.take_left' hl]
  simp only [e keys key hlk, e vals val hlv]
  exact hs0
set_option maxRecDepth 100000 in
set_option maxHeartbeats 16000000 in
theorem leaf_ins (w : World) (c p d : Nat) (F : Nat → Prop) (s : DS) (S T : AS) (N : Nat) (Nf : Nat → Option Nd) (U M : Nat) (key val : Tx) (was last : Bool) (lv : Nat) (at_ : Nat) (keys vals : List Tx) (B0 nk : Nat) (pk : Option Addr) (ck : Nat) (pv : Option Addr) (cv : Nat) (pd : Option Addr) (cd : Nat)
    (hc : Blk w c (chC p key val false was last lv) TCh) (hcF : ¬ F c) (hcB : c < B0) (hFB : ∀ k, F k → k < B0) (hB : B0 ≤ w.heap.size)
    (hok : w.ownsRow B0 TSt 1 (.slice pk nk ck) nk (tv keys)) (hov : w.ownsRow B0 TSt 1 (.slice pv nk cv) nk (tv vals)) (hne : NeB (.slice pk nk ck) (.slice pv nk cv)) (hod : Rd w 1 (.slice pd 0 cd) 0 []) (hlk : keys.length = nk) (hlv : vals.length = nk) (hnk : nk ≤ 251)
    (hsrt : keys.Pairwise (fun a b => ltB a b = true)) (ix : Nat) (hix : ix ≤ nk) (hrk : rk keys key = ix) (his : isAt keys key = false) (hpg : PgV w p d F 1600 s S T true N) (hN : N ≤ 999990) (hst : Sto T Nf U M none) (hat : (Nf at_).isSome = true) (hok2 : OkN ⟨true, keys.take ix ++ key :: keys.drop ix, vals.take ix ++ val :: vals.drop ix, []⟩) (hsz : sizeP ⟨true, keys.take ix ++ key :: keys.drop ix, vals.take ix ++ val :: vals.drop ix, []⟩ ≤ 656) (hs0 : sizeP ⟨true, keys, vals, []⟩ ≤ 504) (hM : M ≤ 1190) (hU : U + 1 ≤ M) :
    Calls Try.prog 59 #[.pointer (some ⟨c, 0, none⟩), .int .i64 (at_ : Int), ndV true pk nk ck pv nk cv pd 0 cd] w fun e w' => ∃ T2 l Nf2 U2 last', ChTo (fun k => F k ∨ k = c ∨ B0 ≤ k) 3 w c p d F s S N T2 l key val false false last' lv e w' ∧ Wrote Nf U at_ ⟨true, keys.take ix ++ key :: keys.drop ix, vals.take ix ++ val :: vals.drop ix, []⟩ l Nf2 U2 ∧ Sto T2 Nf2 U2 M none ∧ T2.root = T.root := by
  have HCC := hid hc
  have HCF := hid hcF
  have HFB := hid hFB
  have HOK := hid hok
  have HOV := hid hov
  have HNE := hid hne
  have HOD := hid hod
  have HLK := hid hlk
  have HLV := hid hlv
  have HSRT := hid hsrt
  have HRK := hid hrk
  have HPG := hid hpg
  have HST := hid hst
  have HAT := hid hat
  have HOK2 := hid hok2
  have HSZ := hid hsz
  have HS0 := hid hs0
  have HIS := hid his
  clear hc hcF hFB hok hov hne hod hlk hlv hsrt hrk his hpg hst hat hok2 hsz hs0
  unfold ndV
  go_enter Try.func59, Try.ntmps59
  go_wp2_with fail
  obtain ⟨t5, ht5⟩ : ∃ b, w.heap.size = b := ⟨_, rfl⟩
  obtain ⟨w1, hw1⟩ : ∃ x, w.alloc (.cells #[.bool true, .slice pk nk ck, .slice pv nk cv, .slice pd 0 cd] 59) = x := ⟨_, rfl⟩
  have hal : Below w.heap.size w w1 := by rw [← hw1]; exact (Below.refl _ _).alloc (Nat.le_refl _) _
  have HT1 : Hid (Blk w1 t5 [.bool true, .slice pk nk ck, .slice pv nk cv, .slice pd 0 cd] TN) := hid (by rw [← hw1, ← ht5]; exact heap_alloc_new _ _)
  have HC1 := hid (HCC.out.chg (Chg.new hal NoFp) (fun h => h))
  have HK1 := hid (own_new HOK.out hal)
  have HV1 := hid (own_new HOV.out hal)
  have HD1 := hid (HOD.out.new hal)
  have HP1 := hid (HPG.out.new' hal)
  have HG1 : Hid (Chg (fun k => F k ∨ k = c ∨ B0 ≤ k) w w1) := hid (Chg.new hal _)
  have hs1 : w1.heap.size = t5 + 1 := by rw [← hw1, ← ht5]; simp
  rw [hw1, ht5]
  rw [ht5] at hB
  have HS5 := hid ht5
  clear hw1 hal ht5
  refine wp_region_plan (fun w' => Blk w' t5 [.bool true, .slice pk nk ck, .slice pv nk cv, .slice pd 0 cd] TN ∧ Blk w' c (chC p key val false was last lv) TCh) (fun j => !([5].contains j)) (fun _ => false)
    (.of [0, 1, 2, 3, 4, 5, 6, 7, 8, 9, 10]) (by kernel_rfl) (by kernel_rfl) rfl (by kernel_rfl) (by kernel_rfl) ⟨HT1.out, HC1.out⟩ ?_
  iterate 5 (apply wpPlan_val; (case ho => rfl); (case hst => rfl); (case hw => rfl); (case hv => intro w' hS; obtain ⟨x8, x9, x10, x11, _, _, _, _⟩ := four_cells hS.1; obtain ⟨y0, y1, y2, y3, y4, y5, y6, _, _, _⟩ := ch_cells hS.2; go_simp; first | done | rfl); intro K hK; go_simp; refine hK _ ?_; clear hK K)
  refine wpPlan_list rfl rfl rfl (fun K hK => ?_)
  refine wpList_step (fun K2 hK2 => ?_)
  go_simp
  refine (place_any w1.drew ⟨true, keys, vals, []⟩ true pk nk ck pv nk cv pd 0 cd key (show Rd w1.drew 1 (.slice pk nk ck) nk (tv keys) from Rd.of_own HK1.out) HLK.out HSRT.out (by omega)).mono ?_
  rintro e2 w2 ⟨rfl, hb2⟩
  have hb2 : Below w1.heap.size w1 w2 := (below_drewN (Below.refl _ _) 1).trans hb2
  rw [show rk (Nd.mk true keys vals []).keys key = ix from HRK.out, show isAt (Nd.mk true keys vals []).keys key = false from HIS.out]
  have HT2 := hid (HT1.out.chg (Chg.new hb2 NoFp) (fun h => h))
  have HC2 := hid (HC1.out.chg (Chg.new hb2 NoFp) (fun h => h))
  have HK2 := hid (own_new HK1.out hb2)
  have HV2 := hid (own_new HV1.out hb2)
  have HD2 := hid (HD1.out.new hb2)
  have HP2 := hid (HP1.out.new' hb2)
  have HG2 := hid (HG1.out.trans (Chg.new hb2 NoFp) (fun _ _ h => h.elim))
  have hs2 : t5 + 1 ≤ w2.heap.size := by have := hb2.size; omega
  clear hb2 HT1 HC1 HK1 HV1 HD1 HP1 HG1 HOK HOV HOD
  go_simp
  refine hK2 _ _ ?_
  clear hK2 K2
  simp only [wpList]
  refine hK _ _ (fun _ => ⟨HT2.out, HC2.out⟩) ?_
  clear hK K
  iterate 5 (apply wpPlan_val; (case ho => rfl); (case hst => rfl); (case hw => rfl); (case hv => intro w' hS; go_simp; first | done | rfl); intro K hK; go_simp; refine hK _ ?_; clear hK K)
  refine wpPlan_nil ?_
  simp only [Qn]
  obtain ⟨y0, y1, y2, y3, y4, y5, y6, z4, z5, z6⟩ := ch_cells HC2.out
  obtain ⟨w3, hw3⟩ : ∃ x, w2.setCell ⟨c, 4, none⟩ (.bool false) = x := ⟨_, rfl⟩
  have hc3 : Chg (fun k => k = c) w2 w3 := by rw [← hw3]; exact Chg.setCell (fp := fun k => k = c) _ rfl _
  have HC3 : Hid (Blk w3 c (chC p key val false false last lv) TCh) := hid (by rw [← hw3]; exact HC2.out.set 4 _)
  have HT3 := hid (HT2.out.chg hc3 (by omega))
  have HK3 := hid (own_chg HK2.out hc3 (fun k hk h => by have := (own_lt HK2.out k hk).1; omega))
  have HV3 := hid (own_chg HV2.out hc3 (fun k hk h => by have := (own_lt HV2.out k hk).1; omega))
  have HP3 := hid (HP2.out.chg hc3 (fun k hk h => HCF.out (h ▸ hk)))
  have HG3 := hid (HG2.out.trans hc3 (fun k hk h => .inr (.inl h)))
  have hs3 : t5 + 1 ≤ w3.heap.size := by have := hc3.size; omega
  have HW3 := hid hw3
  clear hw3 hc3 HC2 HT2 HK2 HV2 HP2 HG2
  go_wp2_with fail
  rw [HW3.out]
  clear y0 y1 y2 y3 y4 y5 y6 z4 z5 z6 HW3
  obtain ⟨wz, hwz⟩ : ∃ x, w3.drew = x := ⟨_, rfl⟩
  have HCz := hid (show Blk wz c (chC p key val false false last lv) TCh by rw [← hwz]; exact HC3.out)
  have HTz := hid (show Blk wz t5 [.bool true, .slice pk nk ck, .slice pv nk cv, .slice pd 0 cd] TN by rw [← hwz]; exact HT3.out)
  have HKz := hid (show wz.ownsRow B0 TSt 1 (.slice pk nk ck) nk (tv keys) by rw [← hwz]; exact HK3.out)
  have HVz := hid (show wz.ownsRow B0 TSt 1 (.slice pv nk cv) nk (tv vals) by rw [← hwz]; exact HV3.out)
  have HGz : Hid (Chg (fun k => F k ∨ k = c ∨ B0 ≤ k) w wz) := hid (by rw [← hwz]; exact HG3.out.drewR 1)
  have HPz : Hid (PgV wz p d F 1600 s S T true N) := hid (HP3.out.new' (by rw [← hwz]; exact below_drewN (Below.refl _ _) 1))
  have hsz1 : t5 + 1 ≤ wz.heap.size := by rw [← hwz]; exact hs3
  clear HC3 HT3 HK3 HV3 HG3 HP3 hs3
  refine wp_region_plan3 (fun w' => Blk w' t5 [.bool true, .slice pk nk ck, .slice pv nk cv, .slice pd 0 cd] TN ∧ Blk w' c (chC p key val false false last lv) TCh) (fun j => !([7, 8, 16, 17, 19, 21].contains j)) (fun j => [1, 6, 10, 15].contains j) (fun j => [19, 21].contains j)
    (.cons 0 (.cons 1 (.cons 2 (.cons 3 (.cons 4 (.cons 5 (.cons 6 (.cons 9 (.cons 10 (.cons 11 (.cons 12 (.cons 13 (.cons 14 (.cons 15 (.fork 7 16 (.fork 8 16 (.cons 18 (.cons 16 (.cons 17 (.cons 19 (.cons 20 (.cons 21 .nil)))))) (.cons 8 (.cons 18 (.cons 17 (.cons 19 (.cons 20 (.cons 21 .nil))))))) (.cons 7 (.cons 8 (.cons 18 (.cons 17 (.cons 19 (.cons 20 (.cons 21 .nil)))))))))))))))))))))) (by kernel_rfl) (by kernel_rfl) rfl (by kernel_rfl) (by kernel_rfl) (by rw [hwz]; exact ⟨HTz.out, HCz.out⟩) ?_
  iterate 14 (apply wpPlan3_val; (case ho => rfl); (case hst => rfl); (case hw => rfl); (case hv => intro w' hS; (try (have hS := hS rfl; obtain ⟨x8, x9, x10, x11, _, _, _, _⟩ := four_cells hS.1; obtain ⟨y0, y1, y2, y3, y4, y5, y6, _, _, _⟩ := ch_cells hS.2)); go_simp; first | done | rfl); intro K hK; go_simp; refine hK _ ?_; clear hK K)
  rw [hwz]
  clear hwz
  refine ⟨?_, ?_⟩
  · refine effect_list rfl rfl (fun K hK => ?_)
    refine wpList_step (fun K2 hK2 => ?_)
    go_simp
    refine hK2 _ _ ?_
    clear hK2 K2
    simp only [wpList]
    have hal1 : Below wz.heap.size wz (wz.alloc (.cells #[.string (B key)] TSt)) := (Below.refl _ _).alloc (Nat.le_refl _) _
    obtain ⟨b1, hb1⟩ : ∃ b, wz.heap.size = b := ⟨_, rfl⟩
    obtain ⟨w1, hw1⟩ : ∃ x, wz.alloc (.cells #[.string (B key)] TSt) = x := ⟨_, rfl⟩
    have HN1 : Hid (Blk w1 b1 [.string (B key)] TSt ∧ b1 < w1.heap.size) := hid (by rw [← hw1, ← hb1]; exact ⟨heap_alloc_new _ _, by simp⟩)
    have F1 := hid (show Value.ownBlock (.slice pv nk cv) ≠ some b1 from fun h => by have := (own_lt HVz.out _ h).2; omega)
    have FM1 := hid (show Value.ownBlock (.slice pk nk ck) ≠ some b1 from fun h => by have := (own_lt HKz.out _ h).2; omega)
    rw [hw1] at hal1 ⊢
    rw [hb1]
    clear hw1
    have HC1 := hid (HCz.out.chg (Chg.new hal1 NoFp) (fun h => h))
    have HT1 := hid (HTz.out.chg (Chg.new hal1 NoFp) (fun h => h))
    have HK1 := hid (own_new HKz.out hal1)
    have HV1 := hid (own_new HVz.out hal1)
    have HP1 := hid (HPz.out.new' hal1)
    have HG1 := hid (HGz.out.trans (Chg.new hal1 NoFp) (fun _ _ h => h.elim))
    have hsz1 : t5 + 1 ≤ w1.heap.size := Nat.le_trans hsz1 hal1.size
    clear hal1 hb1
    refine hK _ _ (fun _ => ⟨HT1.out, HC1.out⟩) ?_
    clear hK K
    refine ⟨?_, ?_⟩
    · refine effect_list rfl rfl (fun K hK => ?_)
      refine wpList_step (fun K2 hK2 => ?_)
      go_simp
      refine (insert_at w1 B0 pk nk ck keys ix b1 key HLK.out hix HK1.out HN1.out.1 FM1.out (by omega) (by omega)).mono ?_
      rintro e2 w2 ⟨p2, c2, rfl, ho2, hc2, hv2⟩
      go_simp
      refine hK2 _ _ ?_
      clear hK2 K2
      simp only [wpList]
      have HC2 := hid (HC1.out.chg hc2 (own_blk_ne HK1.out HC1.out (by decide)))
      have HT2 := hid (HT1.out.chg hc2 (own_blk_ne HK1.out HT1.out (by decide)))
      have HV2 := hid (own_chg HV1.out hc2 (fun g h1 h2 => HNE.out g h2 h1))
      have HP2 := hid (HP1.out.chg hc2 (fun x hx h => by have := (own_lt HK1.out x h).1; have := HFB.out x hx; omega))
      have HG2 := hid (HG1.out.trans hc2 (fun x hx h => .inr (.inr (own_lt HK1.out x h).1)))
      have HNE2 := hid (neB_next2 (w := w1) (v := (.slice pk nk ck)) (v' := .slice p2 (nk + 1) c2) HNE.out.symm (fun g h1 => (own_lt HV1.out g h1).2) hv2)
      have HNE2 := hid HNE2.out.symm
      have HK2 := hid ho2
      have hsz2 : t5 + 1 ≤ w2.heap.size := Nat.le_trans hsz1 hc2.size
      clear ho2 hc2 hv2
      refine hK _ _ (fun _ => ⟨HT2.out, HC2.out⟩) ?_
      clear hK K
      (apply wpPlan3_val; (case ho => rfl); (case hst => rfl); (case hw => rfl); (case hv => intro w' hS; go_simp; first | done | rfl); intro K hK; go_simp; refine hK _ ?_; clear hK K)
      refine wpPlan3_list rfl rfl rfl (fun K hK => ?_)
      refine wpList_step (fun K2 hK2 => ?_)
      go_simp
      refine hK2 _ _ ?_
      clear hK2 K2
      simp only [wpList]
      have hal3 : Below w2.heap.size w2 (w2.alloc (.cells #[.string (B val)] TSt)) := (Below.refl _ _).alloc (Nat.le_refl _) _
      obtain ⟨b3, hb3⟩ : ∃ b, w2.heap.size = b := ⟨_, rfl⟩
      obtain ⟨w3, hw3⟩ : ∃ x, w2.alloc (.cells #[.string (B val)] TSt) = x := ⟨_, rfl⟩
      have HN3 : Hid (Blk w3 b3 [.string (B val)] TSt ∧ b3 < w3.heap.size) := hid (by rw [← hw3, ← hb3]; exact ⟨heap_alloc_new _ _, by simp⟩)
      have F3 := hid (show Value.ownBlock (.slice p2 (nk + 1) c2) ≠ some b3 from fun h => by have := (own_lt HK2.out _ h).2; omega)
      have FM3 := hid (show Value.ownBlock (.slice pv nk cv) ≠ some b3 from fun h => by have := (own_lt HV2.out _ h).2; omega)
      rw [hw3] at hal3 ⊢
      rw [hb3]
      clear hw3
      have HC3 := hid (HC2.out.chg (Chg.new hal3 NoFp) (fun h => h))
      have HT3 := hid (HT2.out.chg (Chg.new hal3 NoFp) (fun h => h))
      have HK3 := hid (own_new HK2.out hal3)
      have HV3 := hid (own_new HV2.out hal3)
      have HP3 := hid (HP2.out.new' hal3)
      have HG3 := hid (HG2.out.trans (Chg.new hal3 NoFp) (fun _ _ h => h.elim))
      have hsz3 : t5 + 1 ≤ w3.heap.size := Nat.le_trans hsz2 hal3.size
      clear hal3 hb3
      refine hK _ _ (fun _ => ⟨HT3.out, HC3.out⟩) ?_
      clear hK K
      refine wpPlan3_list rfl rfl rfl (fun K hK => ?_)
      refine wpList_step (fun K2 hK2 => ?_)
      go_simp
      refine (insert_at w3 B0 pv nk cv vals ix b3 val HLV.out hix HV3.out HN3.out.1 FM3.out (by omega) (by omega)).mono ?_
      rintro e4 w4 ⟨p4, c4, rfl, ho4, hc4, hv4⟩
      go_simp
      refine hK2 _ _ ?_
      clear hK2 K2
      simp only [wpList]
      have HC4 := hid (HC3.out.chg hc4 (own_blk_ne HV3.out HC3.out (by decide)))
      have HT4 := hid (HT3.out.chg hc4 (own_blk_ne HV3.out HT3.out (by decide)))
      have HK4 := hid (own_chg HK3.out hc4 (fun g h1 h2 => HNE2.out.symm g h2 h1))
      have HP4 := hid (HP3.out.chg hc4 (fun x hx h => by have := (own_lt HV3.out x h).1; have := HFB.out x hx; omega))
      have HG4 := hid (HG3.out.trans hc4 (fun x hx h => .inr (.inr (own_lt HV3.out x h).1)))
      have HNE4 := hid (neB_next2 (w := w3) (v := (.slice pv nk cv)) (v' := .slice p4 (nk + 1) c4) HNE2.out.symm.symm (fun g h1 => (own_lt HK3.out g h1).2) hv4)
      have HV4 := hid ho4
      have hsz4 : t5 + 1 ≤ w4.heap.size := Nat.le_trans hsz3 hc4.size
      clear ho4 hc4 hv4
      refine hK _ _ (fun _ => ⟨HT4.out, HC4.out⟩) ?_
      clear hK K
      refine wpPlan3_list rfl rfl rfl (fun K hK => ?_)
      obtain ⟨y05, y15, y25, y35, z05, z15, z25, z35⟩ := four_cells HT4.out
      refine wpList_step (fun K2 hK2 => ?_)
      go_simp
      refine hK2 _ _ ?_
      clear hK2 K2
      simp only [wpList]
      refine hK _ _ (fun h => by cases h) ?_
      clear hK K
      obtain ⟨w5, hw5⟩ : ∃ x, w4.setCell ⟨t5, 1, none⟩ (.slice p2 (nk + 1) c2) = x := ⟨_, rfl⟩
      have HT5 : Hid (Blk w5 t5 [.bool true, .slice p2 (nk + 1) c2, .slice pv nk cv, .slice pd 0 cd] TN) := hid (by rw [← hw5]; exact HT4.out.set 1 _)
      rw [hw5]
      have hc5 : Chg (fun k => k = t5) w4 w5 := by rw [← hw5]; exact Chg.setCell (fp := fun k => k = t5) _ rfl _
      have HC5 := hid (HC4.out.chg hc5 (by omega))
      have HK5 := hid (own_chg HK4.out hc5 (fun x hx h => by have := own_blk_ne HK4.out HT4.out (by decide); rw [h] at hx; exact this hx))
      have HV5 := hid (own_chg HV4.out hc5 (fun x hx h => by have := own_blk_ne HV4.out HT4.out (by decide); rw [h] at hx; exact this hx))
      have HP5 := hid (HP4.out.chg hc5 (fun x hx h => by have h : x = t5 := h; have := HFB.out x hx; omega))
      have HG5 := hid (HG4.out.trans hc5 (fun x hx h => .inr (.inr (by have h : x = t5 := h; omega))))
      have hsz5 : t5 + 1 ≤ w5.heap.size := Nat.le_trans hsz4 hc5.size
      clear hw5 hc5 y05 y15 y25 y35 z05 z15 z25 z35
      (apply wpPlan3_val; (case ho => rfl); (case hst => rfl); (case hw => rfl); (case hv => intro w' hS; go_simp; first | done | rfl); intro K hK; go_simp; refine hK _ ?_; clear hK K)
      refine wpPlan3_list rfl rfl rfl (fun K hK => ?_)
      obtain ⟨y06, y16, y26, y36, z06, z16, z26, z36⟩ := four_cells HT5.out
      refine wpList_step (fun K2 hK2 => ?_)
      go_simp
      refine hK2 _ _ ?_
      clear hK2 K2
      simp only [wpList]
      refine hK _ _ (fun h => by cases h) ?_
      clear hK K
      obtain ⟨w6, hw6⟩ : ∃ x, w5.setCell ⟨t5, 2, none⟩ (.slice p4 (nk + 1) c4) = x := ⟨_, rfl⟩
      have HT6 : Hid (Blk w6 t5 [.bool true, .slice p2 (nk + 1) c2, .slice p4 (nk + 1) c4, .slice pd 0 cd] TN) := hid (by rw [← hw6]; exact HT5.out.set 2 _)
      rw [hw6]
      have hc6 : Chg (fun k => k = t5) w5 w6 := by rw [← hw6]; exact Chg.setCell (fp := fun k => k = t5) _ rfl _
      have HC6 := hid (HC5.out.chg hc6 (by omega))
      have HK6 := hid (own_chg HK5.out hc6 (fun x hx h => by have := own_blk_ne HK5.out HT5.out (by decide); rw [h] at hx; exact this hx))
      have HV6 := hid (own_chg HV5.out hc6 (fun x hx h => by have := own_blk_ne HV5.out HT5.out (by decide); rw [h] at hx; exact this hx))
      have HP6 := hid (HP5.out.chg hc6 (fun x hx h => by have h : x = t5 := h; have := HFB.out x hx; omega))
      have HG6 := hid (HG5.out.trans hc6 (fun x hx h => .inr (.inr (by have h : x = t5 := h; omega))))
      have hsz6 : t5 + 1 ≤ w6.heap.size := Nat.le_trans hsz5 hc6.size
      clear hw6 hc6 y06 y16 y26 y36 z06 z16 z26 z36
      refine wpPlan3_nil ?_
      simp only [Qn]
      obtain ⟨y0, y1, y2, y3, y4, y5, y6, z4, z5, z6⟩ := ch_cells HC6.out
      obtain ⟨x0, x1, x2, x3, _, _, _, _⟩ := four_cells HT6.out
      have hct5 : c ≠ t5 := by omega
      have hct6 : t5 ≠ c := by omega
      cases last
      case false =>
        go_wp2_with fail
        obtain ⟨w7, hw7⟩ : ∃ x, w6.setCell ⟨c, 5, none⟩ (.bool false) = x := ⟨_, rfl⟩
        have hc7 : Chg (fun k => k = c) w6 w7 := by rw [← hw7]; exact Chg.setCell (fp := fun k => k = c) _ rfl _
        have hcc7 : Blk w7 c (chC p key val false false false lv) TCh := by rw [← hw7]; exact HC6.out.set 5 (.bool false)
        rw [hw7]
        have hkk7 : Rd w7 1 (.slice p2 (nk + 1) c2) (nk + 1) (tv (keys.take ix ++ key :: keys.drop ix)) := by
          exact (Rd.of_own HK6.out).chg hc7 (fun _ x hx _ h => by have := (own_lt HK6.out x hx).1; omega)
        have hvv7 : Rd w7 1 (.slice p4 (nk + 1) c4) (nk + 1) (tv (vals.take ix ++ val :: vals.drop ix)) := by
          exact (Rd.of_own HV6.out).chg hc7 (fun _ x hx _ h => by have := (own_lt HV6.out x hx).1; omega)
        have hlk1 : (keys.take ix ++ key :: keys.drop ix).length = nk + 1 := by simp [HLK.out]; omega
        have hlv1 : (vals.take ix ++ val :: vals.drop ix).length = nk + 1 := by simp [HLV.out]; omega
        have hpv7 := HP6.out.chg hc7 (fun x hx h => HCF.out (h ▸ hx))
        have hgg7 := HG6.out.trans hc7 (fun x hx h => .inr (.inl h))
        have hss7 : t5 + 1 ≤ w7.heap.size := Nat.le_trans hsz6 hc7.size
        refine (nwrite_any w7 c p d F s S T N Nf U M key val false false _ lv at_ ⟨true, keys.take ix ++ key :: keys.drop ix, vals.take ix ++ val :: vals.drop ix, []⟩ true p2 (nk + 1) c2 p4 (nk + 1) c4 pd 0 cd hcc7 HCF.out ⟨rfl, by rw [hlk1]; exact hkk7, by rw [hlv1]; exact hvv7, rd_zero HD2.out⟩ hlk1 hlv1 rfl hpv7 hN HST.out hM hU HAT.out HOK2.out (fun _ => HSZ.out) (fun h => by cases h) (fun h => by cases h)).mono ?_
        rintro e9 w9 ⟨T2, l9, Nf9, U9, ⟨q, F', N', rfl, hq, hv, hN', hc9, hF', hqF, hqw⟩, hwr9, hst2, hr2⟩
        have HFIN := hid (And.intro hwr9 (And.intro hst2 hr2))
        have HX : Hid (∃ last', ChTo (fun k => F k ∨ k = c ∨ B0 ≤ k) 3 w c p d F s S N T2 l9 key val false false last' lv (.returned (.tuple #[.slice (some ⟨q, 0, none⟩) l9.length l9.length, .int .i64 0])) w9) := hid
          ⟨_, q, F', N', rfl, hq, hv, hN', hgg7.trans hc9 (fun _ _ h => .inl h), fun k hk => (hF' k hk).imp id (fun h => by have := hgg7.size; omega), hqF, by have := hgg7.size; omega, hcc7.chg hc9 HCF.out, fun h => by rcases hF' c h with h2 | h2; exact HCF.out h2; omega⟩
        clear hq hv hN' hc9 hF' hqF hqw hwr9 hst2 hr2 hcc7 hgg7 hpv7 hkk7 hvv7
        go_wp2_with fail
        go_ret2
        obtain ⟨la9, hx⟩ := HX.out
        exact ⟨T2, l9, Nf9, U9, la9, hx, HFIN.out⟩
      case true =>
        by_cases hin : ix = nk
        case' pos => have hin2 : (ix : Int) = (nk : Int) := by omega
        case' neg => have hin2 : ((ix : Int) == (nk : Int)) = false := by rw [beq_eq_false_iff_ne]; omega
        case pos =>
          go_wp2_with fail
          obtain ⟨w7, hw7⟩ : ∃ x, w6.setCell ⟨c, 5, none⟩ (.bool true) = x := ⟨_, rfl⟩
          have hc7 : Chg (fun k => k = c) w6 w7 := by rw [← hw7]; exact Chg.setCell (fp := fun k => k = c) _ rfl _
          have hcc7 : Blk w7 c (chC p key val false false true lv) TCh := by rw [← hw7]; exact HC6.out.set 5 (.bool true)
          rw [hw7]
          have hkk7 : Rd w7 1 (.slice p2 (nk + 1) c2) (nk + 1) (tv (keys.take ix ++ key :: keys.drop ix)) := by
            exact (Rd.of_own HK6.out).chg hc7 (fun _ x hx _ h => by have := (own_lt HK6.out x hx).1; omega)
          have hvv7 : Rd w7 1 (.slice p4 (nk + 1) c4) (nk + 1) (tv (vals.take ix ++ val :: vals.drop ix)) := by
            exact (Rd.of_own HV6.out).chg hc7 (fun _ x hx _ h => by have := (own_lt HV6.out x hx).1; omega)
          have hlk1 : (keys.take ix ++ key :: keys.drop ix).length = nk + 1 := by simp [HLK.out]; omega
          have hlv1 : (vals.take ix ++ val :: vals.drop ix).length = nk + 1 := by simp [HLV.out]; omega
          have hpv7 := HP6.out.chg hc7 (fun x hx h => HCF.out (h ▸ hx))
          have hgg7 := HG6.out.trans hc7 (fun x hx h => .inr (.inl h))
          have hss7 : t5 + 1 ≤ w7.heap.size := Nat.le_trans hsz6 hc7.size
          refine (nwrite_any w7 c p d F s S T N Nf U M key val false false _ lv at_ ⟨true, keys.take ix ++ key :: keys.drop ix, vals.take ix ++ val :: vals.drop ix, []⟩ true p2 (nk + 1) c2 p4 (nk + 1) c4 pd 0 cd hcc7 HCF.out ⟨rfl, by rw [hlk1]; exact hkk7, by rw [hlv1]; exact hvv7, rd_zero HD2.out⟩ hlk1 hlv1 rfl hpv7 hN HST.out hM hU HAT.out HOK2.out (fun _ => HSZ.out) (fun h => by cases h) (fun _ _ => ins_last HS0.out hin HLK.out HLV.out)).mono ?_
          rintro e9 w9 ⟨T2, l9, Nf9, U9, ⟨q, F', N', rfl, hq, hv, hN', hc9, hF', hqF, hqw⟩, hwr9, hst2, hr2⟩
          have HFIN := hid (And.intro hwr9 (And.intro hst2 hr2))
          have HX : Hid (∃ last', ChTo (fun k => F k ∨ k = c ∨ B0 ≤ k) 3 w c p d F s S N T2 l9 key val false false last' lv (.returned (.tuple #[.slice (some ⟨q, 0, none⟩) l9.length l9.length, .int .i64 0])) w9) := hid
            ⟨_, q, F', N', rfl, hq, hv, hN', hgg7.trans hc9 (fun _ _ h => .inl h), fun k hk => (hF' k hk).imp id (fun h => by have := hgg7.size; omega), hqF, by have := hgg7.size; omega, hcc7.chg hc9 HCF.out, fun h => by rcases hF' c h with h2 | h2; exact HCF.out h2; omega⟩
          clear hq hv hN' hc9 hF' hqF hqw hwr9 hst2 hr2 hcc7 hgg7 hpv7 hkk7 hvv7
          go_wp2_with fail
          go_ret2
          obtain ⟨la9, hx⟩ := HX.out
          exact ⟨T2, l9, Nf9, U9, la9, hx, HFIN.out⟩
        case neg =>
          go_wp2_with fail
          obtain ⟨w7, hw7⟩ : ∃ x, w6.setCell ⟨c, 5, none⟩ (.bool false) = x := ⟨_, rfl⟩
          have hc7 : Chg (fun k => k = c) w6 w7 := by rw [← hw7]; exact Chg.setCell (fp := fun k => k = c) _ rfl _
          have hcc7 : Blk w7 c (chC p key val false false false lv) TCh := by rw [← hw7]; exact HC6.out.set 5 (.bool false)
          rw [hw7]
          have hkk7 : Rd w7 1 (.slice p2 (nk + 1) c2) (nk + 1) (tv (keys.take ix ++ key :: keys.drop ix)) := by
            exact (Rd.of_own HK6.out).chg hc7 (fun _ x hx _ h => by have := (own_lt HK6.out x hx).1; omega)
          have hvv7 : Rd w7 1 (.slice p4 (nk + 1) c4) (nk + 1) (tv (vals.take ix ++ val :: vals.drop ix)) := by
            exact (Rd.of_own HV6.out).chg hc7 (fun _ x hx _ h => by have := (own_lt HV6.out x hx).1; omega)
          have hlk1 : (keys.take ix ++ key :: keys.drop ix).length = nk + 1 := by simp [HLK.out]; omega
          have hlv1 : (vals.take ix ++ val :: vals.drop ix).length = nk + 1 := by simp [HLV.out]; omega
          have hpv7 := HP6.out.chg hc7 (fun x hx h => HCF.out (h ▸ hx))
          have hgg7 := HG6.out.trans hc7 (fun x hx h => .inr (.inl h))
          have hss7 : t5 + 1 ≤ w7.heap.size := Nat.le_trans hsz6 hc7.size
          refine (nwrite_any w7 c p d F s S T N Nf U M key val false false _ lv at_ ⟨true, keys.take ix ++ key :: keys.drop ix, vals.take ix ++ val :: vals.drop ix, []⟩ true p2 (nk + 1) c2 p4 (nk + 1) c4 pd 0 cd hcc7 HCF.out ⟨rfl, by rw [hlk1]; exact hkk7, by rw [hlv1]; exact hvv7, rd_zero HD2.out⟩ hlk1 hlv1 rfl hpv7 hN HST.out hM hU HAT.out HOK2.out (fun _ => HSZ.out) (fun h => by cases h) (fun h => by cases h)).mono ?_
          rintro e9 w9 ⟨T2, l9, Nf9, U9, ⟨q, F', N', rfl, hq, hv, hN', hc9, hF', hqF, hqw⟩, hwr9, hst2, hr2⟩
          have HFIN := hid (And.intro hwr9 (And.intro hst2 hr2))
          have HX : Hid (∃ last', ChTo (fun k => F k ∨ k = c ∨ B0 ≤ k) 3 w c p d F s S N T2 l9 key val false false last' lv (.returned (.tuple #[.slice (some ⟨q, 0, none⟩) l9.length l9.length, .int .i64 0])) w9) := hid
            ⟨_, q, F', N', rfl, hq, hv, hN', hgg7.trans hc9 (fun _ _ h => .inl h), fun k hk => (hF' k hk).imp id (fun h => by have := hgg7.size; omega), hqF, by have := hgg7.size; omega, hcc7.chg hc9 HCF.out, fun h => by rcases hF' c h with h2 | h2; exact HCF.out h2; omega⟩
          clear hq hv hN' hc9 hF' hqF hqw hwr9 hst2 hr2 hcc7 hgg7 hpv7 hkk7 hvv7
          go_wp2_with fail
          go_ret2
          obtain ⟨la9, hx⟩ := HX.out
          exact ⟨T2, l9, Nf9, U9, la9, hx, HFIN.out⟩
    · refine effect_list rfl rfl (fun K hK => ?_)
      refine wpList_step (fun K2 hK2 => ?_)
      go_simp
      refine hK2 _ _ ?_
      clear hK2 K2
      simp only [wpList]
      have hal8 : Below w1.heap.size w1 (w1.alloc (.cells #[.string (B val)] TSt)) := (Below.refl _ _).alloc (Nat.le_refl _) _
      obtain ⟨b8, hb8⟩ : ∃ b, w1.heap.size = b := ⟨_, rfl⟩
      obtain ⟨w8, hw8⟩ : ∃ x, w1.alloc (.cells #[.string (B val)] TSt) = x := ⟨_, rfl⟩
      have HN8 : Hid (Blk w8 b8 [.string (B val)] TSt ∧ b8 < w8.heap.size) := hid (by rw [← hw8, ← hb8]; exact ⟨heap_alloc_new _ _, by simp⟩)
      have F8 := hid (show Value.ownBlock (.slice pk nk ck) ≠ some b8 from fun h => by have := (own_lt HK1.out _ h).2; omega)
      have FM8 := hid (show Value.ownBlock (.slice pv nk cv) ≠ some b8 from fun h => by have := (own_lt HV1.out _ h).2; omega)
      rw [hw8] at hal8 ⊢
      rw [hb8]
      clear hw8
      have HC8 := hid (HC1.out.chg (Chg.new hal8 NoFp) (fun h => h))
      have HT8 := hid (HT1.out.chg (Chg.new hal8 NoFp) (fun h => h))
      have HK8 := hid (own_new HK1.out hal8)
      have HV8 := hid (own_new HV1.out hal8)
      have HP8 := hid (HP1.out.new' hal8)
      have HG8 := hid (HG1.out.trans (Chg.new hal8 NoFp) (fun _ _ h => h.elim))
      have hsz8 : t5 + 1 ≤ w8.heap.size := Nat.le_trans hsz1 hal8.size
      have HA8 := hid (And.intro (HN1.out.1.chg (Chg.new hal8 NoFp) (fun h => h)) (Nat.lt_of_lt_of_le HN1.out.2 hal8.size))
      clear hal8 hb8
      refine hK _ _ (fun _ => ⟨HT8.out, HC8.out⟩) ?_
      clear hK K
      refine wpPlan3_list rfl rfl rfl (fun K hK => ?_)
      refine wpList_step (fun K2 hK2 => ?_)
      go_simp
      refine (insert_at w8 B0 pk nk ck keys ix b1 key HLK.out hix HK8.out HA8.out.1 FM1.out (by omega) (by omega)).mono ?_
      rintro e9 w9 ⟨p9, c9, rfl, ho9, hc9, hv9⟩
      go_simp
      refine hK2 _ _ ?_
      clear hK2 K2
      simp only [wpList]
      have HC9 := hid (HC8.out.chg hc9 (own_blk_ne HK8.out HC8.out (by decide)))
      have HT9 := hid (HT8.out.chg hc9 (own_blk_ne HK8.out HT8.out (by decide)))
      have HV9 := hid (own_chg HV8.out hc9 (fun g h1 h2 => HNE.out g h2 h1))
      have HP9 := hid (HP8.out.chg hc9 (fun x hx h => by have := (own_lt HK8.out x h).1; have := HFB.out x hx; omega))
      have HG9 := hid (HG8.out.trans hc9 (fun x hx h => .inr (.inr (own_lt HK8.out x h).1)))
      have HNE9 := hid (neB_next2 (w := w8) (v := (.slice pk nk ck)) (v' := .slice p9 (nk + 1) c9) HNE.out.symm (fun g h1 => (own_lt HV8.out g h1).2) hv9)
      have HNE9 := hid HNE9.out.symm
      have HB9 := hid (And.intro (HN8.out.1.chg hc9 (fun h => F8.out h)) (Nat.lt_of_lt_of_le HN8.out.2 hc9.size))
      have HK9 := hid ho9
      have hsz9 : t5 + 1 ≤ w9.heap.size := Nat.le_trans hsz8 hc9.size
      clear ho9 hc9 hv9
      refine hK _ _ (fun _ => ⟨HT9.out, HC9.out⟩) ?_
      clear hK K
      (apply wpPlan3_val; (case ho => rfl); (case hst => rfl); (case hw => rfl); (case hv => intro w' hS; go_simp; first | done | rfl); intro K hK; go_simp; refine hK _ ?_; clear hK K)
      refine wpPlan3_list rfl rfl rfl (fun K hK => ?_)
      refine wpList_step (fun K2 hK2 => ?_)
      go_simp
      refine (insert_at w9 B0 pv nk cv vals ix b8 val HLV.out hix HV9.out HB9.out.1 FM8.out (by omega) (by omega)).mono ?_
      rintro e10 w10 ⟨p10, c10, rfl, ho10, hc10, hv10⟩
      go_simp
      refine hK2 _ _ ?_
      clear hK2 K2
      simp only [wpList]
      have HC10 := hid (HC9.out.chg hc10 (own_blk_ne HV9.out HC9.out (by decide)))
      have HT10 := hid (HT9.out.chg hc10 (own_blk_ne HV9.out HT9.out (by decide)))
      have HK10 := hid (own_chg HK9.out hc10 (fun g h1 h2 => HNE9.out.symm g h2 h1))
      have HP10 := hid (HP9.out.chg hc10 (fun x hx h => by have := (own_lt HV9.out x h).1; have := HFB.out x hx; omega))
      have HG10 := hid (HG9.out.trans hc10 (fun x hx h => .inr (.inr (own_lt HV9.out x h).1)))
      have HNE10 := hid (neB_next2 (w := w9) (v := (.slice pv nk cv)) (v' := .slice p10 (nk + 1) c10) HNE9.out.symm.symm (fun g h1 => (own_lt HK9.out g h1).2) hv10)
      have HV10 := hid ho10
      have hsz10 : t5 + 1 ≤ w10.heap.size := Nat.le_trans hsz9 hc10.size
      clear ho10 hc10 hv10
      refine hK _ _ (fun _ => ⟨HT10.out, HC10.out⟩) ?_
      clear hK K
      refine wpPlan3_list rfl rfl rfl (fun K hK => ?_)
      obtain ⟨y011, y111, y211, y311, z011, z111, z211, z311⟩ := four_cells HT10.out
      refine wpList_step (fun K2 hK2 => ?_)
      go_simp
      refine hK2 _ _ ?_
      clear hK2 K2
      simp only [wpList]
      refine hK _ _ (fun h => by cases h) ?_
      clear hK K
      obtain ⟨w11, hw11⟩ : ∃ x, w10.setCell ⟨t5, 1, none⟩ (.slice p9 (nk + 1) c9) = x := ⟨_, rfl⟩
      have HT11 : Hid (Blk w11 t5 [.bool true, .slice p9 (nk + 1) c9, .slice pv nk cv, .slice pd 0 cd] TN) := hid (by rw [← hw11]; exact HT10.out.set 1 _)
      rw [hw11]
      have hc11 : Chg (fun k => k = t5) w10 w11 := by rw [← hw11]; exact Chg.setCell (fp := fun k => k = t5) _ rfl _
      have HC11 := hid (HC10.out.chg hc11 (by omega))
      have HK11 := hid (own_chg HK10.out hc11 (fun x hx h => by have := own_blk_ne HK10.out HT10.out (by decide); rw [h] at hx; exact this hx))
      have HV11 := hid (own_chg HV10.out hc11 (fun x hx h => by have := own_blk_ne HV10.out HT10.out (by decide); rw [h] at hx; exact this hx))
      have HP11 := hid (HP10.out.chg hc11 (fun x hx h => by have h : x = t5 := h; have := HFB.out x hx; omega))
      have HG11 := hid (HG10.out.trans hc11 (fun x hx h => .inr (.inr (by have h : x = t5 := h; omega))))
      have hsz11 : t5 + 1 ≤ w11.heap.size := Nat.le_trans hsz10 hc11.size
      clear hw11 hc11 y011 y111 y211 y311 z011 z111 z211 z311
      (apply wpPlan3_val; (case ho => rfl); (case hst => rfl); (case hw => rfl); (case hv => intro w' hS; go_simp; first | done | rfl); intro K hK; go_simp; refine hK _ ?_; clear hK K)
      refine wpPlan3_list rfl rfl rfl (fun K hK => ?_)
      obtain ⟨y012, y112, y212, y312, z012, z112, z212, z312⟩ := four_cells HT11.out
      refine wpList_step (fun K2 hK2 => ?_)
      go_simp
      refine hK2 _ _ ?_
      clear hK2 K2
      simp only [wpList]
      refine hK _ _ (fun h => by cases h) ?_
      clear hK K
      obtain ⟨w12, hw12⟩ : ∃ x, w11.setCell ⟨t5, 2, none⟩ (.slice p10 (nk + 1) c10) = x := ⟨_, rfl⟩
      have HT12 : Hid (Blk w12 t5 [.bool true, .slice p9 (nk + 1) c9, .slice p10 (nk + 1) c10, .slice pd 0 cd] TN) := hid (by rw [← hw12]; exact HT11.out.set 2 _)
      rw [hw12]
      have hc12 : Chg (fun k => k = t5) w11 w12 := by rw [← hw12]; exact Chg.setCell (fp := fun k => k = t5) _ rfl _
      have HC12 := hid (HC11.out.chg hc12 (by omega))
      have HK12 := hid (own_chg HK11.out hc12 (fun x hx h => by have := own_blk_ne HK11.out HT11.out (by decide); rw [h] at hx; exact this hx))
      have HV12 := hid (own_chg HV11.out hc12 (fun x hx h => by have := own_blk_ne HV11.out HT11.out (by decide); rw [h] at hx; exact this hx))
      have HP12 := hid (HP11.out.chg hc12 (fun x hx h => by have h : x = t5 := h; have := HFB.out x hx; omega))
      have HG12 := hid (HG11.out.trans hc12 (fun x hx h => .inr (.inr (by have h : x = t5 := h; omega))))
      have hsz12 : t5 + 1 ≤ w12.heap.size := Nat.le_trans hsz11 hc12.size
      clear hw12 hc12 y012 y112 y212 y312 z012 z112 z212 z312
      refine wpPlan3_nil ?_
      simp only [Qn]
      obtain ⟨y0, y1, y2, y3, y4, y5, y6, z4, z5, z6⟩ := ch_cells HC12.out
      obtain ⟨x0, x1, x2, x3, _, _, _, _⟩ := four_cells HT12.out
      have hct5 : c ≠ t5 := by omega
      have hct6 : t5 ≠ c := by omega
      cases last
      case false =>
        go_wp2_with fail
        obtain ⟨w13, hw13⟩ : ∃ x, w12.setCell ⟨c, 5, none⟩ (.bool false) = x := ⟨_, rfl⟩
        have hc13 : Chg (fun k => k = c) w12 w13 := by rw [← hw13]; exact Chg.setCell (fp := fun k => k = c) _ rfl _
        have hcc13 : Blk w13 c (chC p key val false false false lv) TCh := by rw [← hw13]; exact HC12.out.set 5 (.bool false)
        rw [hw13]
        have hkk13 : Rd w13 1 (.slice p9 (nk + 1) c9) (nk + 1) (tv (keys.take ix ++ key :: keys.drop ix)) := by
          exact (Rd.of_own HK12.out).chg hc13 (fun _ x hx _ h => by have := (own_lt HK12.out x hx).1; omega)
        have hvv13 : Rd w13 1 (.slice p10 (nk + 1) c10) (nk + 1) (tv (vals.take ix ++ val :: vals.drop ix)) := by
          exact (Rd.of_own HV12.out).chg hc13 (fun _ x hx _ h => by have := (own_lt HV12.out x hx).1; omega)
        have hlk1 : (keys.take ix ++ key :: keys.drop ix).length = nk + 1 := by simp [HLK.out]; omega
        have hlv1 : (vals.take ix ++ val :: vals.drop ix).length = nk + 1 := by simp [HLV.out]; omega
        have hpv13 := HP12.out.chg hc13 (fun x hx h => HCF.out (h ▸ hx))
        have hgg13 := HG12.out.trans hc13 (fun x hx h => .inr (.inl h))
        have hss13 : t5 + 1 ≤ w13.heap.size := Nat.le_trans hsz12 hc13.size
        refine (nwrite_any w13 c p d F s S T N Nf U M key val false false _ lv at_ ⟨true, keys.take ix ++ key :: keys.drop ix, vals.take ix ++ val :: vals.drop ix, []⟩ true p9 (nk + 1) c9 p10 (nk + 1) c10 pd 0 cd hcc13 HCF.out ⟨rfl, by rw [hlk1]; exact hkk13, by rw [hlv1]; exact hvv13, rd_zero HD2.out⟩ hlk1 hlv1 rfl hpv13 hN HST.out hM hU HAT.out HOK2.out (fun _ => HSZ.out) (fun h => by cases h) (fun h => by cases h)).mono ?_
        rintro e9 w9 ⟨T2, l9, Nf9, U9, ⟨q, F', N', rfl, hq, hv, hN', hc9, hF', hqF, hqw⟩, hwr9, hst2, hr2⟩
        have HFIN := hid (And.intro hwr9 (And.intro hst2 hr2))
        have HX : Hid (∃ last', ChTo (fun k => F k ∨ k = c ∨ B0 ≤ k) 3 w c p d F s S N T2 l9 key val false false last' lv (.returned (.tuple #[.slice (some ⟨q, 0, none⟩) l9.length l9.length, .int .i64 0])) w9) := hid
          ⟨_, q, F', N', rfl, hq, hv, hN', hgg13.trans hc9 (fun _ _ h => .inl h), fun k hk => (hF' k hk).imp id (fun h => by have := hgg13.size; omega), hqF, by have := hgg13.size; omega, hcc13.chg hc9 HCF.out, fun h => by rcases hF' c h with h2 | h2; exact HCF.out h2; omega⟩
        clear hq hv hN' hc9 hF' hqF hqw hwr9 hst2 hr2 hcc13 hgg13 hpv13 hkk13 hvv13
        go_wp2_with fail
        go_ret2
        obtain ⟨la9, hx⟩ := HX.out
        exact ⟨T2, l9, Nf9, U9, la9, hx, HFIN.out⟩
      case true =>
        by_cases hin : ix = nk
        case' pos => have hin2 : (ix : Int) = (nk : Int) := by omega
        case' neg => have hin2 : ((ix : Int) == (nk : Int)) = false := by rw [beq_eq_false_iff_ne]; omega
        case pos =>
          go_wp2_with fail
          obtain ⟨w13, hw13⟩ : ∃ x, w12.setCell ⟨c, 5, none⟩ (.bool true) = x := ⟨_, rfl⟩
          have hc13 : Chg (fun k => k = c) w12 w13 := by rw [← hw13]; exact Chg.setCell (fp := fun k => k = c) _ rfl _
          have hcc13 : Blk w13 c (chC p key val false false true lv) TCh := by rw [← hw13]; exact HC12.out.set 5 (.bool true)
          rw [hw13]
          have hkk13 : Rd w13 1 (.slice p9 (nk + 1) c9) (nk + 1) (tv (keys.take ix ++ key :: keys.drop ix)) := by
            exact (Rd.of_own HK12.out).chg hc13 (fun _ x hx _ h => by have := (own_lt HK12.out x hx).1; omega)
          have hvv13 : Rd w13 1 (.slice p10 (nk + 1) c10) (nk + 1) (tv (vals.take ix ++ val :: vals.drop ix)) := by
            exact (Rd.of_own HV12.out).chg hc13 (fun _ x hx _ h => by have := (own_lt HV12.out x hx).1; omega)
          have hlk1 : (keys.take ix ++ key :: keys.drop ix).length = nk + 1 := by simp [HLK.out]; omega
          have hlv1 : (vals.take ix ++ val :: vals.drop ix).length = nk + 1 := by simp [HLV.out]; omega
          have hpv13 := HP12.out.chg hc13 (fun x hx h => HCF.out (h ▸ hx))
          have hgg13 := HG12.out.trans hc13 (fun x hx h => .inr (.inl h))
          have hss13 : t5 + 1 ≤ w13.heap.size := Nat.le_trans hsz12 hc13.size
          refine (nwrite_any w13 c p d F s S T N Nf U M key val false false _ lv at_ ⟨true, keys.take ix ++ key :: keys.drop ix, vals.take ix ++ val :: vals.drop ix, []⟩ true p9 (nk + 1) c9 p10 (nk + 1) c10 pd 0 cd hcc13 HCF.out ⟨rfl, by rw [hlk1]; exact hkk13, by rw [hlv1]; exact hvv13, rd_zero HD2.out⟩ hlk1 hlv1 rfl hpv13 hN HST.out hM hU HAT.out HOK2.out (fun _ => HSZ.out) (fun h => by cases h) (fun _ _ => ins_last HS0.out hin HLK.out HLV.out)).mono ?_
          rintro e9 w9 ⟨T2, l9, Nf9, U9, ⟨q, F', N', rfl, hq, hv, hN', hc9, hF', hqF, hqw⟩, hwr9, hst2, hr2⟩
          have HFIN := hid (And.intro hwr9 (And.intro hst2 hr2))
          have HX : Hid (∃ last', ChTo (fun k => F k ∨ k = c ∨ B0 ≤ k) 3 w c p d F s S N T2 l9 key val false false last' lv (.returned (.tuple #[.slice (some ⟨q, 0, none⟩) l9.length l9.length, .int .i64 0])) w9) := hid
            ⟨_, q, F', N', rfl, hq, hv, hN', hgg13.trans hc9 (fun _ _ h => .inl h), fun k hk => (hF' k hk).imp id (fun h => by have := hgg13.size; omega), hqF, by have := hgg13.size; omega, hcc13.chg hc9 HCF.out, fun h => by rcases hF' c h with h2 | h2; exact HCF.out h2; omega⟩
          clear hq hv hN' hc9 hF' hqF hqw hwr9 hst2 hr2 hcc13 hgg13 hpv13 hkk13 hvv13
          go_wp2_with fail
          go_ret2
          obtain ⟨la9, hx⟩ := HX.out
          exact ⟨T2, l9, Nf9, U9, la9, hx, HFIN.out⟩
        case neg =>
          go_wp2_with fail
          obtain ⟨w13, hw13⟩ : ∃ x, w12.setCell ⟨c, 5, none⟩ (.bool false) = x := ⟨_, rfl⟩
          have hc13 : Chg (fun k => k = c) w12 w13 := by rw [← hw13]; exact Chg.setCell (fp := fun k => k = c) _ rfl _
          have hcc13 : Blk w13 c (chC p key val false false false lv) TCh := by rw [← hw13]; exact HC12.out.set 5 (.bool false)
          rw [hw13]
          have hkk13 : Rd w13 1 (.slice p9 (nk + 1) c9) (nk + 1) (tv (keys.take ix ++ key :: keys.drop ix)) := by
            exact (Rd.of_own HK12.out).chg hc13 (fun _ x hx _ h => by have := (own_lt HK12.out x hx).1; omega)
          have hvv13 : Rd w13 1 (.slice p10 (nk + 1) c10) (nk + 1) (tv (vals.take ix ++ val :: vals.drop ix)) := by
            exact (Rd.of_own HV12.out).chg hc13 (fun _ x hx _ h => by have := (own_lt HV12.out x hx).1; omega)
          have hlk1 : (keys.take ix ++ key :: keys.drop ix).length = nk + 1 := by simp [HLK.out]; omega
          have hlv1 : (vals.take ix ++ val :: vals.drop ix).length = nk + 1 := by simp [HLV.out]; omega
          have hpv13 := HP12.out.chg hc13 (fun x hx h => HCF.out (h ▸ hx))
          have hgg13 := HG12.out.trans hc13 (fun x hx h => .inr (.inl h))
          have hss13 : t5 + 1 ≤ w13.heap.size := Nat.le_trans hsz12 hc13.size
          refine (nwrite_any w13 c p d F s S T N Nf U M key val false false _ lv at_ ⟨true, keys.take ix ++ key :: keys.drop ix, vals.take ix ++ val :: vals.drop ix, []⟩ true p9 (nk + 1) c9 p10 (nk + 1) c10 pd 0 cd hcc13 HCF.out ⟨rfl, by rw [hlk1]; exact hkk13, by rw [hlv1]; exact hvv13, rd_zero HD2.out⟩ hlk1 hlv1 rfl hpv13 hN HST.out hM hU HAT.out HOK2.out (fun _ => HSZ.out) (fun h => by cases h) (fun h => by cases h)).mono ?_
          rintro e9 w9 ⟨T2, l9, Nf9, U9, ⟨q, F', N', rfl, hq, hv, hN', hc9, hF', hqF, hqw⟩, hwr9, hst2, hr2⟩
          have HFIN := hid (And.intro hwr9 (And.intro hst2 hr2))
          have HX : Hid (∃ last', ChTo (fun k => F k ∨ k = c ∨ B0 ≤ k) 3 w c p d F s S N T2 l9 key val false false last' lv (.returned (.tuple #[.slice (some ⟨q, 0, none⟩) l9.length l9.length, .int .i64 0])) w9) := hid
            ⟨_, q, F', N', rfl, hq, hv, hN', hgg13.trans hc9 (fun _ _ h => .inl h), fun k hk => (hF' k hk).imp id (fun h => by have := hgg13.size; omega), hqF, by have := hgg13.size; omega, hcc13.chg hc9 HCF.out, fun h => by rcases hF' c h with h2 | h2; exact HCF.out h2; omega⟩
          clear hq hv hN' hc9 hF' hqF hqw hwr9 hst2 hr2 hcc13 hgg13 hpv13 hkk13 hvv13
          go_wp2_with fail
          go_ret2
          obtain ⟨la9, hx⟩ := HX.out
          exact ⟨T2, l9, Nf9, U9, la9, hx, HFIN.out⟩
  · refine effect_list rfl rfl (fun K hK => ?_)
    refine wpList_step (fun K2 hK2 => ?_)
    go_simp
    refine hK2 _ _ ?_
    clear hK2 K2
    simp only [wpList]
    have hal14 : Below wz.heap.size wz (wz.alloc (.cells #[.string (B val)] TSt)) := (Below.refl _ _).alloc (Nat.le_refl _) _
    obtain ⟨b14, hb14⟩ : ∃ b, wz.heap.size = b := ⟨_, rfl⟩
    obtain ⟨w14, hw14⟩ : ∃ x, wz.alloc (.cells #[.string (B val)] TSt) = x := ⟨_, rfl⟩
    have HN14 : Hid (Blk w14 b14 [.string (B val)] TSt ∧ b14 < w14.heap.size) := hid (by rw [← hw14, ← hb14]; exact ⟨heap_alloc_new _ _, by simp⟩)
    have F14 := hid (show Value.ownBlock (.slice pk nk ck) ≠ some b14 from fun h => by have := (own_lt HKz.out _ h).2; omega)
    have FM14 := hid (show Value.ownBlock (.slice pv nk cv) ≠ some b14 from fun h => by have := (own_lt HVz.out _ h).2; omega)
    rw [hw14] at hal14 ⊢
    rw [hb14]
    clear hw14
    have HC14 := hid (HCz.out.chg (Chg.new hal14 NoFp) (fun h => h))
    have HT14 := hid (HTz.out.chg (Chg.new hal14 NoFp) (fun h => h))
    have HK14 := hid (own_new HKz.out hal14)
    have HV14 := hid (own_new HVz.out hal14)
    have HP14 := hid (HPz.out.new' hal14)
    have HG14 := hid (HGz.out.trans (Chg.new hal14 NoFp) (fun _ _ h => h.elim))
    have hsz14 : t5 + 1 ≤ w14.heap.size := Nat.le_trans hsz1 hal14.size
    clear hal14 hb14
    refine hK _ _ (fun _ => ⟨HT14.out, HC14.out⟩) ?_
    clear hK K
    refine wpPlan3_list rfl rfl rfl (fun K hK => ?_)
    refine wpList_step (fun K2 hK2 => ?_)
    go_simp
    refine hK2 _ _ ?_
    clear hK2 K2
    simp only [wpList]
    have hal15 : Below w14.heap.size w14 (w14.alloc (.cells #[.string (B key)] TSt)) := (Below.refl _ _).alloc (Nat.le_refl _) _
    obtain ⟨b15, hb15⟩ : ∃ b, w14.heap.size = b := ⟨_, rfl⟩
    obtain ⟨w15, hw15⟩ : ∃ x, w14.alloc (.cells #[.string (B key)] TSt) = x := ⟨_, rfl⟩
    have HN15 : Hid (Blk w15 b15 [.string (B key)] TSt ∧ b15 < w15.heap.size) := hid (by rw [← hw15, ← hb15]; exact ⟨heap_alloc_new _ _, by simp⟩)
    have F15 := hid (show Value.ownBlock (.slice pv nk cv) ≠ some b15 from fun h => by have := (own_lt HV14.out _ h).2; omega)
    have FM15 := hid (show Value.ownBlock (.slice pk nk ck) ≠ some b15 from fun h => by have := (own_lt HK14.out _ h).2; omega)
    rw [hw15] at hal15 ⊢
    rw [hb15]
    clear hw15
    have HC15 := hid (HC14.out.chg (Chg.new hal15 NoFp) (fun h => h))
    have HT15 := hid (HT14.out.chg (Chg.new hal15 NoFp) (fun h => h))
    have HK15 := hid (own_new HK14.out hal15)
    have HV15 := hid (own_new HV14.out hal15)
    have HP15 := hid (HP14.out.new' hal15)
    have HG15 := hid (HG14.out.trans (Chg.new hal15 NoFp) (fun _ _ h => h.elim))
    have hsz15 : t5 + 1 ≤ w15.heap.size := Nat.le_trans hsz14 hal15.size
    have HB15 := hid (And.intro (HN14.out.1.chg (Chg.new hal15 NoFp) (fun h => h)) (Nat.lt_of_lt_of_le HN14.out.2 hal15.size))
    clear hal15 hb15
    refine hK _ _ (fun _ => ⟨HT15.out, HC15.out⟩) ?_
    clear hK K
    refine wpPlan3_list rfl rfl rfl (fun K hK => ?_)
    refine wpList_step (fun K2 hK2 => ?_)
    go_simp
    refine (insert_at w15 B0 pk nk ck keys ix b15 key HLK.out hix HK15.out HN15.out.1 FM15.out (by omega) (by omega)).mono ?_
    rintro e16 w16 ⟨p16, c16, rfl, ho16, hc16, hv16⟩
    go_simp
    refine hK2 _ _ ?_
    clear hK2 K2
    simp only [wpList]
    have HC16 := hid (HC15.out.chg hc16 (own_blk_ne HK15.out HC15.out (by decide)))
    have HT16 := hid (HT15.out.chg hc16 (own_blk_ne HK15.out HT15.out (by decide)))
    have HV16 := hid (own_chg HV15.out hc16 (fun g h1 h2 => HNE.out g h2 h1))
    have HP16 := hid (HP15.out.chg hc16 (fun x hx h => by have := (own_lt HK15.out x h).1; have := HFB.out x hx; omega))
    have HG16 := hid (HG15.out.trans hc16 (fun x hx h => .inr (.inr (own_lt HK15.out x h).1)))
    have HNE16 := hid (neB_next2 (w := w15) (v := (.slice pk nk ck)) (v' := .slice p16 (nk + 1) c16) HNE.out.symm (fun g h1 => (own_lt HV15.out g h1).2) hv16)
    have HNE16 := hid HNE16.out.symm
    have HB16 := hid (And.intro (HB15.out.1.chg hc16 (fun h => F14.out h)) (Nat.lt_of_lt_of_le HB15.out.2 hc16.size))
    have HK16 := hid ho16
    have hsz16 : t5 + 1 ≤ w16.heap.size := Nat.le_trans hsz15 hc16.size
    clear ho16 hc16 hv16
    refine hK _ _ (fun _ => ⟨HT16.out, HC16.out⟩) ?_
    clear hK K
    (apply wpPlan3_val; (case ho => rfl); (case hst => rfl); (case hw => rfl); (case hv => intro w' hS; go_simp; first | done | rfl); intro K hK; go_simp; refine hK _ ?_; clear hK K)
    refine wpPlan3_list rfl rfl rfl (fun K hK => ?_)
    refine wpList_step (fun K2 hK2 => ?_)
    go_simp
    refine (insert_at w16 B0 pv nk cv vals ix b14 val HLV.out hix HV16.out HB16.out.1 FM14.out (by omega) (by omega)).mono ?_
    rintro e17 w17 ⟨p17, c17, rfl, ho17, hc17, hv17⟩
    go_simp
    refine hK2 _ _ ?_
    clear hK2 K2
    simp only [wpList]
    have HC17 := hid (HC16.out.chg hc17 (own_blk_ne HV16.out HC16.out (by decide)))
    have HT17 := hid (HT16.out.chg hc17 (own_blk_ne HV16.out HT16.out (by decide)))
    have HK17 := hid (own_chg HK16.out hc17 (fun g h1 h2 => HNE16.out.symm g h2 h1))
    have HP17 := hid (HP16.out.chg hc17 (fun x hx h => by have := (own_lt HV16.out x h).1; have := HFB.out x hx; omega))
    have HG17 := hid (HG16.out.trans hc17 (fun x hx h => .inr (.inr (own_lt HV16.out x h).1)))
    have HNE17 := hid (neB_next2 (w := w16) (v := (.slice pv nk cv)) (v' := .slice p17 (nk + 1) c17) HNE16.out.symm.symm (fun g h1 => (own_lt HK16.out g h1).2) hv17)
    have HV17 := hid ho17
    have hsz17 : t5 + 1 ≤ w17.heap.size := Nat.le_trans hsz16 hc17.size
    clear ho17 hc17 hv17
    refine hK _ _ (fun _ => ⟨HT17.out, HC17.out⟩) ?_
    clear hK K
    refine wpPlan3_list rfl rfl rfl (fun K hK => ?_)
    obtain ⟨y018, y118, y218, y318, z018, z118, z218, z318⟩ := four_cells HT17.out
    refine wpList_step (fun K2 hK2 => ?_)
    go_simp
    refine hK2 _ _ ?_
    clear hK2 K2
    simp only [wpList]
    refine hK _ _ (fun h => by cases h) ?_
    clear hK K
    obtain ⟨w18, hw18⟩ : ∃ x, w17.setCell ⟨t5, 1, none⟩ (.slice p16 (nk + 1) c16) = x := ⟨_, rfl⟩
    have HT18 : Hid (Blk w18 t5 [.bool true, .slice p16 (nk + 1) c16, .slice pv nk cv, .slice pd 0 cd] TN) := hid (by rw [← hw18]; exact HT17.out.set 1 _)
    rw [hw18]
    have hc18 : Chg (fun k => k = t5) w17 w18 := by rw [← hw18]; exact Chg.setCell (fp := fun k => k = t5) _ rfl _
    have HC18 := hid (HC17.out.chg hc18 (by omega))
    have HK18 := hid (own_chg HK17.out hc18 (fun x hx h => by have := own_blk_ne HK17.out HT17.out (by decide); rw [h] at hx; exact this hx))
    have HV18 := hid (own_chg HV17.out hc18 (fun x hx h => by have := own_blk_ne HV17.out HT17.out (by decide); rw [h] at hx; exact this hx))
    have HP18 := hid (HP17.out.chg hc18 (fun x hx h => by have h : x = t5 := h; have := HFB.out x hx; omega))
    have HG18 := hid (HG17.out.trans hc18 (fun x hx h => .inr (.inr (by have h : x = t5 := h; omega))))
    have hsz18 : t5 + 1 ≤ w18.heap.size := Nat.le_trans hsz17 hc18.size
    clear hw18 hc18 y018 y118 y218 y318 z018 z118 z218 z318
    (apply wpPlan3_val; (case ho => rfl); (case hst => rfl); (case hw => rfl); (case hv => intro w' hS; go_simp; first | done | rfl); intro K hK; go_simp; refine hK _ ?_; clear hK K)
    refine wpPlan3_list rfl rfl rfl (fun K hK => ?_)
    obtain ⟨y019, y119, y219, y319, z019, z119, z219, z319⟩ := four_cells HT18.out
    refine wpList_step (fun K2 hK2 => ?_)
    go_simp
    refine hK2 _ _ ?_
    clear hK2 K2
    simp only [wpList]
    refine hK _ _ (fun h => by cases h) ?_
    clear hK K
    obtain ⟨w19, hw19⟩ : ∃ x, w18.setCell ⟨t5, 2, none⟩ (.slice p17 (nk + 1) c17) = x := ⟨_, rfl⟩
    have HT19 : Hid (Blk w19 t5 [.bool true, .slice p16 (nk + 1) c16, .slice p17 (nk + 1) c17, .slice pd 0 cd] TN) := hid (by rw [← hw19]; exact HT18.out.set 2 _)
    rw [hw19]
    have hc19 : Chg (fun k => k = t5) w18 w19 := by rw [← hw19]; exact Chg.setCell (fp := fun k => k = t5) _ rfl _
    have HC19 := hid (HC18.out.chg hc19 (by omega))
    have HK19 := hid (own_chg HK18.out hc19 (fun x hx h => by have := own_blk_ne HK18.out HT18.out (by decide); rw [h] at hx; exact this hx))
    have HV19 := hid (own_chg HV18.out hc19 (fun x hx h => by have := own_blk_ne HV18.out HT18.out (by decide); rw [h] at hx; exact this hx))
    have HP19 := hid (HP18.out.chg hc19 (fun x hx h => by have h : x = t5 := h; have := HFB.out x hx; omega))
    have HG19 := hid (HG18.out.trans hc19 (fun x hx h => .inr (.inr (by have h : x = t5 := h; omega))))
    have hsz19 : t5 + 1 ≤ w19.heap.size := Nat.le_trans hsz18 hc19.size
    clear hw19 hc19 y019 y119 y219 y319 z019 z119 z219 z319
    refine wpPlan3_nil ?_
    simp only [Qn]
    obtain ⟨y0, y1, y2, y3, y4, y5, y6, z4, z5, z6⟩ := ch_cells HC19.out
    obtain ⟨x0, x1, x2, x3, _, _, _, _⟩ := four_cells HT19.out
    have hct5 : c ≠ t5 := by omega
    have hct6 : t5 ≠ c := by omega
    cases last
    case false =>
      go_wp2_with fail
      obtain ⟨w20, hw20⟩ : ∃ x, w19.setCell ⟨c, 5, none⟩ (.bool false) = x := ⟨_, rfl⟩
      have hc20 : Chg (fun k => k = c) w19 w20 := by rw [← hw20]; exact Chg.setCell (fp := fun k => k = c) _ rfl _
      have hcc20 : Blk w20 c (chC p key val false false false lv) TCh := by rw [← hw20]; exact HC19.out.set 5 (.bool false)
      rw [hw20]
      have hkk20 : Rd w20 1 (.slice p16 (nk + 1) c16) (nk + 1) (tv (keys.take ix ++ key :: keys.drop ix)) := by
        exact (Rd.of_own HK19.out).chg hc20 (fun _ x hx _ h => by have := (own_lt HK19.out x hx).1; omega)
      have hvv20 : Rd w20 1 (.slice p17 (nk + 1) c17) (nk + 1) (tv (vals.take ix ++ val :: vals.drop ix)) := by
        exact (Rd.of_own HV19.out).chg hc20 (fun _ x hx _ h => by have := (own_lt HV19.out x hx).1; omega)
      have hlk1 : (keys.take ix ++ key :: keys.drop ix).length = nk + 1 := by simp [HLK.out]; omega
      have hlv1 : (vals.take ix ++ val :: vals.drop ix).length = nk + 1 := by simp [HLV.out]; omega
      have hpv20 := HP19.out.chg hc20 (fun x hx h => HCF.out (h ▸ hx))
      have hgg20 := HG19.out.trans hc20 (fun x hx h => .inr (.inl h))
      have hss20 : t5 + 1 ≤ w20.heap.size := Nat.le_trans hsz19 hc20.size
      refine (nwrite_any w20 c p d F s S T N Nf U M key val false false _ lv at_ ⟨true, keys.take ix ++ key :: keys.drop ix, vals.take ix ++ val :: vals.drop ix, []⟩ true p16 (nk + 1) c16 p17 (nk + 1) c17 pd 0 cd hcc20 HCF.out ⟨rfl, by rw [hlk1]; exact hkk20, by rw [hlv1]; exact hvv20, rd_zero HD2.out⟩ hlk1 hlv1 rfl hpv20 hN HST.out hM hU HAT.out HOK2.out (fun _ => HSZ.out) (fun h => by cases h) (fun h => by cases h)).mono ?_
      rintro e9 w9 ⟨T2, l9, Nf9, U9, ⟨q, F', N', rfl, hq, hv, hN', hc9, hF', hqF, hqw⟩, hwr9, hst2, hr2⟩
      have HFIN := hid (And.intro hwr9 (And.intro hst2 hr2))
      have HX : Hid (∃ last', ChTo (fun k => F k ∨ k = c ∨ B0 ≤ k) 3 w c p d F s S N T2 l9 key val false false last' lv (.returned (.tuple #[.slice (some ⟨q, 0, none⟩) l9.length l9.length, .int .i64 0])) w9) := hid
        ⟨_, q, F', N', rfl, hq, hv, hN', hgg20.trans hc9 (fun _ _ h => .inl h), fun k hk => (hF' k hk).imp id (fun h => by have := hgg20.size; omega), hqF, by have := hgg20.size; omega, hcc20.chg hc9 HCF.out, fun h => by rcases hF' c h with h2 | h2; exact HCF.out h2; omega⟩
      clear hq hv hN' hc9 hF' hqF hqw hwr9 hst2 hr2 hcc20 hgg20 hpv20 hkk20 hvv20
      go_wp2_with fail
      go_ret2
      obtain ⟨la9, hx⟩ := HX.out
      exact ⟨T2, l9, Nf9, U9, la9, hx, HFIN.out⟩
    case true =>
      by_cases hin : ix = nk
      case' pos => have hin2 : (ix : Int) = (nk : Int) := by omega
      case' neg => have hin2 : ((ix : Int) == (nk : Int)) = false := by rw [beq_eq_false_iff_ne]; omega
      case pos =>
        go_wp2_with fail
        obtain ⟨w20, hw20⟩ : ∃ x, w19.setCell ⟨c, 5, none⟩ (.bool true) = x := ⟨_, rfl⟩
        have hc20 : Chg (fun k => k = c) w19 w20 := by rw [← hw20]; exact Chg.setCell (fp := fun k => k = c) _ rfl _
        have hcc20 : Blk w20 c (chC p key val false false true lv) TCh := by rw [← hw20]; exact HC19.out.set 5 (.bool true)
        rw [hw20]
        have hkk20 : Rd w20 1 (.slice p16 (nk + 1) c16) (nk + 1) (tv (keys.take ix ++ key :: keys.drop ix)) := by
          exact (Rd.of_own HK19.out).chg hc20 (fun _ x hx _ h => by have := (own_lt HK19.out x hx).1; omega)
        have hvv20 : Rd w20 1 (.slice p17 (nk + 1) c17) (nk + 1) (tv (vals.take ix ++ val :: vals.drop ix)) := by
          exact (Rd.of_own HV19.out).chg hc20 (fun _ x hx _ h => by have := (own_lt HV19.out x hx).1; omega)
        have hlk1 : (keys.take ix ++ key :: keys.drop ix).length = nk + 1 := by simp [HLK.out]; omega
        have hlv1 : (vals.take ix ++ val :: vals.drop ix).length = nk + 1 := by simp [HLV.out]; omega
        have hpv20 := HP19.out.chg hc20 (fun x hx h => HCF.out (h ▸ hx))
        have hgg20 := HG19.out.trans hc20 (fun x hx h => .inr (.inl h))
        have hss20 : t5 + 1 ≤ w20.heap.size := Nat.le_trans hsz19 hc20.size
        refine (nwrite_any w20 c p d F s S T N Nf U M key val false false _ lv at_ ⟨true, keys.take ix ++ key :: keys.drop ix, vals.take ix ++ val :: vals.drop ix, []⟩ true p16 (nk + 1) c16 p17 (nk + 1) c17 pd 0 cd hcc20 HCF.out ⟨rfl, by rw [hlk1]; exact hkk20, by rw [hlv1]; exact hvv20, rd_zero HD2.out⟩ hlk1 hlv1 rfl hpv20 hN HST.out hM hU HAT.out HOK2.out (fun _ => HSZ.out) (fun h => by cases h) (fun _ _ => ins_last HS0.out hin HLK.out HLV.out)).mono ?_
        rintro e9 w9 ⟨T2, l9, Nf9, U9, ⟨q, F', N', rfl, hq, hv, hN', hc9, hF', hqF, hqw⟩, hwr9, hst2, hr2⟩
        have HFIN := hid (And.intro hwr9 (And.intro hst2 hr2))
        have HX : Hid (∃ last', ChTo (fun k => F k ∨ k = c ∨ B0 ≤ k) 3 w c p d F s S N T2 l9 key val false false last' lv (.returned (.tuple #[.slice (some ⟨q, 0, none⟩) l9.length l9.length, .int .i64 0])) w9) := hid
          ⟨_, q, F', N', rfl, hq, hv, hN', hgg20.trans hc9 (fun _ _ h => .inl h), fun k hk => (hF' k hk).imp id (fun h => by have := hgg20.size; omega), hqF, by have := hgg20.size; omega, hcc20.chg hc9 HCF.out, fun h => by rcases hF' c h with h2 | h2; exact HCF.out h2; omega⟩
        clear hq hv hN' hc9 hF' hqF hqw hwr9 hst2 hr2 hcc20 hgg20 hpv20 hkk20 hvv20
        go_wp2_with fail
        go_ret2
        obtain ⟨la9, hx⟩ := HX.out
        exact ⟨T2, l9, Nf9, U9, la9, hx, HFIN.out⟩
      case neg =>
        go_wp2_with fail
        obtain ⟨w20, hw20⟩ : ∃ x, w19.setCell ⟨c, 5, none⟩ (.bool false) = x := ⟨_, rfl⟩
        have hc20 : Chg (fun k => k = c) w19 w20 := by rw [← hw20]; exact Chg.setCell (fp := fun k => k = c) _ rfl _
        have hcc20 : Blk w20 c (chC p key val false false false lv) TCh := by rw [← hw20]; exact HC19.out.set 5 (.bool false)
        rw [hw20]
        have hkk20 : Rd w20 1 (.slice p16 (nk + 1) c16) (nk + 1) (tv (keys.take ix ++ key :: keys.drop ix)) := by
          exact (Rd.of_own HK19.out).chg hc20 (fun _ x hx _ h => by have := (own_lt HK19.out x hx).1; omega)
        have hvv20 : Rd w20 1 (.slice p17 (nk + 1) c17) (nk + 1) (tv (vals.take ix ++ val :: vals.drop ix)) := by
          exact (Rd.of_own HV19.out).chg hc20 (fun _ x hx _ h => by have := (own_lt HV19.out x hx).1; omega)
        have hlk1 : (keys.take ix ++ key :: keys.drop ix).length = nk + 1 := by simp [HLK.out]; omega
        have hlv1 : (vals.take ix ++ val :: vals.drop ix).length = nk + 1 := by simp [HLV.out]; omega
        have hpv20 := HP19.out.chg hc20 (fun x hx h => HCF.out (h ▸ hx))
        have hgg20 := HG19.out.trans hc20 (fun x hx h => .inr (.inl h))
        have hss20 : t5 + 1 ≤ w20.heap.size := Nat.le_trans hsz19 hc20.size
        refine (nwrite_any w20 c p d F s S T N Nf U M key val false false _ lv at_ ⟨true, keys.take ix ++ key :: keys.drop ix, vals.take ix ++ val :: vals.drop ix, []⟩ true p16 (nk + 1) c16 p17 (nk + 1) c17 pd 0 cd hcc20 HCF.out ⟨rfl, by rw [hlk1]; exact hkk20, by rw [hlv1]; exact hvv20, rd_zero HD2.out⟩ hlk1 hlv1 rfl hpv20 hN HST.out hM hU HAT.out HOK2.out (fun _ => HSZ.out) (fun h => by cases h) (fun h => by cases h)).mono ?_
        rintro e9 w9 ⟨T2, l9, Nf9, U9, ⟨q, F', N', rfl, hq, hv, hN', hc9, hF', hqF, hqw⟩, hwr9, hst2, hr2⟩
        have HFIN := hid (And.intro hwr9 (And.intro hst2 hr2))
        have HX : Hid (∃ last', ChTo (fun k => F k ∨ k = c ∨ B0 ≤ k) 3 w c p d F s S N T2 l9 key val false false last' lv (.returned (.tuple #[.slice (some ⟨q, 0, none⟩) l9.length l9.length, .int .i64 0])) w9) := hid
          ⟨_, q, F', N', rfl, hq, hv, hN', hgg20.trans hc9 (fun _ _ h => .inl h), fun k hk => (hF' k hk).imp id (fun h => by have := hgg20.size; omega), hqF, by have := hgg20.size; omega, hcc20.chg hc9 HCF.out, fun h => by rcases hF' c h with h2 | h2; exact HCF.out h2; omega⟩
        clear hq hv hN' hc9 hF' hqF hqw hwr9 hst2 hr2 hcc20 hgg20 hpv20 hkk20 hvv20
        go_wp2_with fail
        go_ret2
        obtain ⟨la9, hx⟩ := HX.out
        exact ⟨T2, l9, Nf9, U9, la9, hx, HFIN.out⟩
end Go.Proofs.Ytdilkgcoecipjaa

namespace Go.Proofs.Ytdilkgcoecipjaa
open Go.RowKit Go.Maps
set_option linter.unusedVariables false

theorem own_set_ {w : World} {base : Nat} {e : TypeId} {g n c k : Nat} {xs : List Value} (h : w.ownsRow base e 1 (.slice (some ⟨g, 0, none⟩) n c) n xs) (hk : k < n) (v : Value) :
    (w.setCell ⟨g, k, none⟩ v).ownsRow base e 1 (.slice (some ⟨g, 0, none⟩) n c) n (xs.set k v) := by
  refine ⟨by rw [List.length_set]; exact h.1, ?_⟩
  rcases h.2 with ⟨h5, _⟩ | ⟨g', cap, cur, h5, hb, hg, hnc, hcm, hcs, htake⟩
  · cases h5
  · cases h5
    refine .inr ⟨g, c, _, rfl, hb, heap_setCell_same _ _ _ _ _ _ hg, hnc, hcm, by simp [hcs], ?_⟩
    rw [Array.toList_setIfInBounds, List.take_set, htake]
theorem own_at {w : World} {base : Nat} {e : TypeId} {p : Option Addr} {n c k : Nat} {xs : List Value} (h : w.ownsRow base e 1 (.slice p n c) n xs) (hk : k < n) :
    ∃ g v, p = some ⟨g, 0, none⟩ ∧ w.cell? ⟨g, k, none⟩ = some v ∧ w.frozen? ⟨g, k, none⟩ = false := by
  rcases h.2 with ⟨h5, h0⟩ | ⟨g, cap, cur, h5, hb, hg, hnc, hcm, hcs, _⟩
  · omega
  · cases h5
    have hb : Blk w g cur.toList e := by unfold Blk; rw [hg]
    refine ⟨g, cur.toList[k]'(by first | (simp; done) | (simp; omega)), rfl, (hb.cell k).trans (List.getElem?_eq_getElem _), frozen_of_row _ _ _ _ _ hg⟩
theorem tv_set (l : List Tx) (i : Nat) (x : Tx) : (tv l).set i (.string (B x)) = tv (l.set i x) := by simp [tv, List.map_set]
theorem rep_last {keys vals : List Tx} {val : Tx} {ix nk : Nat} (hs0 : sizeP ⟨true, keys, vals, []⟩ ≤ 504) (hin : ix = nk - 1) :
    sizeP ⟨true, (Nd.mk true keys (vals.set ix val) []).keys.take (nk - 1), (Nd.mk true keys (vals.set ix val) []).vals.take (nk - 1), []⟩ ≤ 504 := by
  subst hin
  show sizeP ⟨true, keys.take (nk - 1), (vals.set (nk - 1) val).take (nk - 1), []⟩ ≤ 504
  rw [List.take_set_of_le (Nat.le_refl _)]
  have e : ∀ (k v : List Tx), sizeP ⟨true, k, v, []⟩ = 2 + (costs ⟨true, k, v, []⟩).sum := fun k v => by simp [sizeP]
  rw [e, costs_take]
  rw [e] at hs0
  have := sum_take_le (costs ⟨true, keys, vals, []⟩) (nk - 1)
  omega

set_option maxRecDepth 100000 in
set_option maxHeartbeats 16000000 in
theorem leaf_rep (w : World) (c p d : Nat) (F : Nat → Prop) (s : DS) (S T : AS) (N : Nat) (Nf : Nat → Option Nd) (U M : Nat) (key val : Tx) (was last : Bool) (lv : Nat) (at_ : Nat) (keys vals : List Tx) (B0 nk : Nat) (pk : Option Addr) (ck : Nat) (pv : Option Addr) (cv : Nat) (pd : Option Addr) (cd : Nat)
    (hc : Blk w c (chC p key val false was last lv) TCh) (hcF : ¬ F c) (hcB : c < B0) (hFB : ∀ k, F k → k < B0) (hB : B0 ≤ w.heap.size)
    (hok : w.ownsRow B0 TSt 1 (.slice pk nk ck) nk (tv keys)) (hov : w.ownsRow B0 TSt 1 (.slice pv nk cv) nk (tv vals)) (hne : NeB (.slice pk nk ck) (.slice pv nk cv)) (hod : Rd w 1 (.slice pd 0 cd) 0 []) (hlk : keys.length = nk) (hlv : vals.length = nk) (hnk : nk ≤ 251)
    (hsrt : keys.Pairwise (fun a b => ltB a b = true)) (ix : Nat) (hix : ix < nk) (hrk : rk keys key = ix) (his : isAt keys key = true) (hpg : PgV w p d F 1600 s S T true N) (hN : N ≤ 999990) (hst : Sto T Nf U M none) (hat : (Nf at_).isSome = true) (hok2 : OkN ⟨true, keys, vals.set ix val, []⟩) (hsz : sizeP ⟨true, keys, vals.set ix val, []⟩ ≤ 656) (hs0 : sizeP ⟨true, keys, vals, []⟩ ≤ 504) (hM : M ≤ 1190) (hU : U + 1 ≤ M) :
    Calls Try.prog 59 #[.pointer (some ⟨c, 0, none⟩), .int .i64 (at_ : Int), ndV true pk nk ck pv nk cv pd 0 cd] w fun e w' => ∃ T2 l Nf2 U2 last', ChTo (fun k => F k ∨ k = c ∨ B0 ≤ k) 3 w c p d F s S N T2 l key val false true last' lv e w' ∧ Wrote Nf U at_ ⟨true, keys, vals.set ix val, []⟩ l Nf2 U2 ∧ Sto T2 Nf2 U2 M none ∧ T2.root = T.root := by
  have HCC := hid hc
  have HCF := hid hcF
  have HFB := hid hFB
  have HOK := hid hok
  have HOV := hid hov
  have HNE := hid hne
  have HOD := hid hod
  have HLK := hid hlk
  have HLV := hid hlv
  have HSRT := hid hsrt
  have HRK := hid hrk
  have HPG := hid hpg
  have HST := hid hst
  have HAT := hid hat
  have HOK2 := hid hok2
  have HSZ := hid hsz
  have HS0 := hid hs0
  have HIS := hid his
  clear hc hcF hFB hok hov hne hod hlk hlv hsrt hrk his hpg hst hat hok2 hsz hs0
  unfold ndV
  go_enter Try.func59, Try.ntmps59
  go_wp2_with fail
  obtain ⟨t5, ht5⟩ : ∃ b, w.heap.size = b := ⟨_, rfl⟩
  obtain ⟨w1, hw1⟩ : ∃ x, w.alloc (.cells #[.bool true, .slice pk nk ck, .slice pv nk cv, .slice pd 0 cd] 59) = x := ⟨_, rfl⟩
  have hal : Below w.heap.size w w1 := by rw [← hw1]; exact (Below.refl _ _).alloc (Nat.le_refl _) _
  have HT1 : Hid (Blk w1 t5 [.bool true, .slice pk nk ck, .slice pv nk cv, .slice pd 0 cd] TN) := hid (by rw [← hw1, ← ht5]; exact heap_alloc_new _ _)
  have HC1 := hid (HCC.out.chg (Chg.new hal NoFp) (fun h => h))
  have HK1 := hid (own_new HOK.out hal)
  have HV1 := hid (own_new HOV.out hal)
  have HD1 := hid (HOD.out.new hal)
  have HP1 := hid (HPG.out.new' hal)
  have HG1 : Hid (Chg (fun k => F k ∨ k = c ∨ B0 ≤ k) w w1) := hid (Chg.new hal _)
  have hs1 : w1.heap.size = t5 + 1 := by rw [← hw1, ← ht5]; simp
  rw [hw1, ht5]
  rw [ht5] at hB
  have HS5 := hid ht5
  clear hw1 hal ht5
  refine wp_region_plan (fun w' => Blk w' t5 [.bool true, .slice pk nk ck, .slice pv nk cv, .slice pd 0 cd] TN ∧ Blk w' c (chC p key val false was last lv) TCh) (fun j => !([5].contains j)) (fun _ => false)
    (.of [0, 1, 2, 3, 4, 5, 6, 7, 8, 9, 10]) (by kernel_rfl) (by kernel_rfl) rfl (by kernel_rfl) (by kernel_rfl) ⟨HT1.out, HC1.out⟩ ?_
  iterate 5 (apply wpPlan_val; (case ho => rfl); (case hst => rfl); (case hw => rfl); (case hv => intro w' hS; obtain ⟨x8, x9, x10, x11, _, _, _, _⟩ := four_cells hS.1; obtain ⟨y0, y1, y2, y3, y4, y5, y6, _, _, _⟩ := ch_cells hS.2; go_simp; first | done | rfl); intro K hK; go_simp; refine hK _ ?_; clear hK K)
  refine wpPlan_list rfl rfl rfl (fun K hK => ?_)
  refine wpList_step (fun K2 hK2 => ?_)
  go_simp
  refine (place_any w1.drew ⟨true, keys, vals, []⟩ true pk nk ck pv nk cv pd 0 cd key (show Rd w1.drew 1 (.slice pk nk ck) nk (tv keys) from Rd.of_own HK1.out) HLK.out HSRT.out (by omega)).mono ?_
  rintro e2 w2 ⟨rfl, hb2⟩
  have hb2 : Below w1.heap.size w1 w2 := (below_drewN (Below.refl _ _) 1).trans hb2
  rw [show rk (Nd.mk true keys vals []).keys key = ix from HRK.out, show isAt (Nd.mk true keys vals []).keys key = true from HIS.out]
  have HT2 := hid (HT1.out.chg (Chg.new hb2 NoFp) (fun h => h))
  have HC2 := hid (HC1.out.chg (Chg.new hb2 NoFp) (fun h => h))
  have HK2 := hid (own_new HK1.out hb2)
  have HV2 := hid (own_new HV1.out hb2)
  have HD2 := hid (HD1.out.new hb2)
  have HP2 := hid (HP1.out.new' hb2)
  have HG2 := hid (HG1.out.trans (Chg.new hb2 NoFp) (fun _ _ h => h.elim))
  have hs2 : t5 + 1 ≤ w2.heap.size := by have := hb2.size; omega
  clear hb2 HT1 HC1 HK1 HV1 HD1 HP1 HG1 HOK HOV HOD
  go_simp
  refine hK2 _ _ ?_
  clear hK2 K2
  simp only [wpList]
  refine hK _ _ (fun _ => ⟨HT2.out, HC2.out⟩) ?_
  clear hK K
  iterate 5 (apply wpPlan_val; (case ho => rfl); (case hst => rfl); (case hw => rfl); (case hv => intro w' hS; go_simp; first | done | rfl); intro K hK; go_simp; refine hK _ ?_; clear hK K)
  refine wpPlan_nil ?_
  simp only [Qn]
  obtain ⟨y0, y1, y2, y3, y4, y5, y6, z4, z5, z6⟩ := ch_cells HC2.out
  obtain ⟨w3, hw3⟩ : ∃ x, w2.setCell ⟨c, 4, none⟩ (.bool true) = x := ⟨_, rfl⟩
  have hc3 : Chg (fun k => k = c) w2 w3 := by rw [← hw3]; exact Chg.setCell (fp := fun k => k = c) _ rfl _
  have HC3 : Hid (Blk w3 c (chC p key val false true last lv) TCh) := hid (by rw [← hw3]; exact HC2.out.set 4 _)
  have HT3 := hid (HT2.out.chg hc3 (by omega))
  have HK3 := hid (own_chg HK2.out hc3 (fun k hk h => by have := (own_lt HK2.out k hk).1; omega))
  have HV3 := hid (own_chg HV2.out hc3 (fun k hk h => by have := (own_lt HV2.out k hk).1; omega))
  have HP3 := hid (HP2.out.chg hc3 (fun k hk h => HCF.out (h ▸ hk)))
  have HG3 := hid (HG2.out.trans hc3 (fun k hk h => .inr (.inl h)))
  have hs3 : t5 + 1 ≤ w3.heap.size := by have := hc3.size; omega
  have HW3 := hid hw3
  clear hw3 hc3 HC2 HT2 HK2 HV2 HP2 HG2
  go_wp2_with fail
  rw [HW3.out]
  clear y0 y1 y2 y3 y4 y5 y6 z4 z5 z6 HW3
  obtain ⟨wz, hwz⟩ : ∃ x, w3.drew = x := ⟨_, rfl⟩
  have HCz := hid (show Blk wz c (chC p key val false true last lv) TCh by rw [← hwz]; exact HC3.out)
  have HTz := hid (show Blk wz t5 [.bool true, .slice pk nk ck, .slice pv nk cv, .slice pd 0 cd] TN by rw [← hwz]; exact HT3.out)
  have HKz := hid (show wz.ownsRow B0 TSt 1 (.slice pk nk ck) nk (tv keys) by rw [← hwz]; exact HK3.out)
  have HVz := hid (show wz.ownsRow B0 TSt 1 (.slice pv nk cv) nk (tv vals) by rw [← hwz]; exact HV3.out)
  have HGz : Hid (Chg (fun k => F k ∨ k = c ∨ B0 ≤ k) w wz) := hid (by rw [← hwz]; exact HG3.out.drewR 1)
  have HPz : Hid (PgV wz p d F 1600 s S T true N) := hid (HP3.out.new' (by rw [← hwz]; exact below_drewN (Below.refl _ _) 1))
  have hsz1 : t5 + 1 ≤ wz.heap.size := by rw [← hwz]; exact hs3
  clear HC3 HT3 HK3 HV3 HG3 HP3 hs3
  have hix2 : (ix : Int) < (nk : Int) := by omega
  obtain ⟨gv, v0, rfl, hcv, hfv⟩ := own_at HVz.out hix
  refine wp_region_plan3 (fun w' => Blk w' t5 [.bool true, .slice pk nk ck, .slice (some ⟨gv, 0, none⟩) nk cv, .slice pd 0 cd] TN ∧ Blk w' c (chC p key val false true last lv) TCh) (fun j => !([8].contains j)) (fun j => [1, 6].contains j) (fun _ => false)
    (.cons 0 (.cons 1 (.cons 2 (.cons 3 (.cons 4 (.cons 5 (.cons 6 (.cons 7 (.cons 8 .nil))))))))) (by kernel_rfl) (by kernel_rfl) rfl (by kernel_rfl) (by kernel_rfl) (by rw [hwz]; exact ⟨HTz.out, HCz.out⟩) ?_
  iterate 8 (apply wpPlan3_val; (case ho => rfl); (case hst => rfl); (case hw => rfl); (case hv => intro w' hS; (try (have hS := hS rfl; obtain ⟨x8, x9, x10, x11, _, _, _, _⟩ := four_cells hS.1; obtain ⟨y0, y1, y2, y3, y4, y5, y6, _, _, _⟩ := ch_cells hS.2)); go_simp; first | done | rfl); intro K hK; go_simp; refine hK _ ?_; clear hK K)
  rw [hwz]
  clear hwz
  refine wpPlan3_list rfl rfl rfl (fun K hK => ?_)
  refine wpList_step (fun K2 hK2 => ?_)
  go_simp
  refine hK2 _ _ ?_
  clear hK2 K2
  simp only [wpList]
  obtain ⟨w9, hw9⟩ : ∃ x, wz.setCell ⟨gv, ix, none⟩ (.string (B val)) = x := ⟨_, rfl⟩
  have hc9 : Chg (fun k => k = gv) wz w9 := by rw [← hw9]; exact Chg.setCell (fp := fun k => k = gv) _ rfl _
  have HV9 : Hid (w9.ownsRow B0 TSt 1 (.slice (some ⟨gv, 0, none⟩) nk cv) nk (tv (vals.set ix val))) := hid (by rw [← hw9, ← tv_set]; exact own_set_ HVz.out hix _)
  have hgv := own_lt HVz.out gv rfl
  have HK9 := hid (own_chg HKz.out hc9 (fun k hk h => HNE.out k hk (by rw [h]; rfl)))
  have HC9 := hid (HCz.out.chg hc9 (by omega))
  have HT9 := hid (HTz.out.chg hc9 (fun h => own_blk_ne HVz.out HTz.out (by decide) (by rw [h]; rfl)))
  have HP9 := hid (HPz.out.chg hc9 (fun x hx h => by have := HFB.out x hx; omega))
  have HG9 := hid (HGz.out.trans hc9 (fun x hx h => .inr (.inr (by omega))))
  have hs9 : t5 + 1 ≤ w9.heap.size := by have := hc9.size; omega
  rw [hw9]
  clear hw9 hc9 hcv hfv HKz HVz HCz HTz HPz HGz
  refine hK _ _ (fun _ => ⟨HT9.out, HC9.out⟩) ?_
  clear hK K
  refine wpPlan3_nil ?_
  simp only [Qn]
  obtain ⟨y0, y1, y2, y3, y4, y5, y6, z4, z5, z6⟩ := ch_cells HC9.out
  obtain ⟨x0, x1, x2, x3, _, _, _, _⟩ := four_cells HT9.out
  have hct5 : c ≠ t5 := by omega
  have hct6 : t5 ≠ c := by omega
  cases last
  case false =>
    go_wp2_with fail
    obtain ⟨wl, hwl⟩ : ∃ x, w9.setCell ⟨c, 5, none⟩ (.bool false) = x := ⟨_, rfl⟩
    have hcl9 : Chg (fun k => k = c) w9 wl := by rw [← hwl]; exact Chg.setCell (fp := fun k => k = c) _ rfl _
    have hccl : Blk wl c (chC p key val false true false lv) TCh := by rw [← hwl]; exact HC9.out.set 5 (.bool false)
    rw [hwl]
    have hkkl : Rd wl 1 (.slice pk nk ck) nk (tv keys) := (Rd.of_own HK9.out).chg hcl9 (fun _ x hx _ h => by have := (own_lt HK9.out x hx).1; omega)
    have hvvl : Rd wl 1 (.slice (some ⟨gv, 0, none⟩) nk cv) nk (tv (vals.set ix val)) := (Rd.of_own HV9.out).chg hcl9 (fun _ x hx _ h => by have := (own_lt HV9.out x hx).1; omega)
    have hlk1 : (vals.set ix val).length = nk := by rw [List.length_set]; exact HLV.out
    have hpvl := HP9.out.chg hcl9 (fun x hx h => HCF.out (h ▸ hx))
    have hggl := HG9.out.trans hcl9 (fun x hx h => .inr (.inl h))
    have hssl : t5 + 1 ≤ wl.heap.size := Nat.le_trans hs9 hcl9.size
    refine (nwrite_any wl c p d F s S T N Nf U M key val false true _ lv at_ ⟨true, keys, vals.set ix val, []⟩ true pk nk ck (some ⟨gv, 0, none⟩) nk cv pd 0 cd hccl HCF.out ⟨rfl, by rw [HLK.out]; exact hkkl, by rw [hlk1]; exact hvvl, rd_zero HD2.out⟩ HLK.out hlk1 rfl hpvl hN HST.out hM hU HAT.out HOK2.out (fun _ => HSZ.out) (fun h => by cases h) (fun h => by cases h)).mono ?_
    rintro e9 wr ⟨T2, l9, Nf9, U9, ⟨q, F', N', rfl, hq, hv, hN', hcr, hF', hqF, hqw⟩, hwr9, hst2, hr2⟩
    have HFIN := hid (And.intro hwr9 (And.intro hst2 hr2))
    have HX : Hid (∃ last', ChTo (fun k => F k ∨ k = c ∨ B0 ≤ k) 3 w c p d F s S N T2 l9 key val false true last' lv (.returned (.tuple #[.slice (some ⟨q, 0, none⟩) l9.length l9.length, .int .i64 0])) wr) := hid
      ⟨_, q, F', N', rfl, hq, hv, hN', hggl.trans hcr (fun _ _ h => .inl h), fun k hk => (hF' k hk).imp id (fun h => by have := hggl.size; omega), hqF, by have := hggl.size; omega, hccl.chg hcr HCF.out, fun h => by rcases hF' c h with h2 | h2; exact HCF.out h2; omega⟩
    clear hq hv hN' hcr hF' hqF hqw hwr9 hst2 hr2 hccl hggl hpvl hkkl hvvl
    go_wp2_with fail
    go_ret2
    obtain ⟨la9, hx⟩ := HX.out
    exact ⟨T2, l9, Nf9, U9, la9, hx, HFIN.out⟩
  case true =>
    by_cases hin : ix = nk - 1
    case' pos =>
      have hin2 : (ix : Int) = (nk : Int) - 1 := by omega
      have HIN := hid hin
      clear hin
    case' neg => have hin2 : ((ix : Int) == (nk : Int) - 1) = false := by rw [beq_eq_false_iff_ne]; omega
    case pos =>
      go_wp2_with fail
      obtain ⟨wl, hwl⟩ : ∃ x, w9.setCell ⟨c, 5, none⟩ (.bool true) = x := ⟨_, rfl⟩
      have hcl9 : Chg (fun k => k = c) w9 wl := by rw [← hwl]; exact Chg.setCell (fp := fun k => k = c) _ rfl _
      have hccl : Blk wl c (chC p key val false true true lv) TCh := by rw [← hwl]; exact HC9.out.set 5 (.bool true)
      rw [hwl]
      have hkkl : Rd wl 1 (.slice pk nk ck) nk (tv keys) := (Rd.of_own HK9.out).chg hcl9 (fun _ x hx _ h => by have := (own_lt HK9.out x hx).1; omega)
      have hvvl : Rd wl 1 (.slice (some ⟨gv, 0, none⟩) nk cv) nk (tv (vals.set ix val)) := (Rd.of_own HV9.out).chg hcl9 (fun _ x hx _ h => by have := (own_lt HV9.out x hx).1; omega)
      have hlk1 : (vals.set ix val).length = nk := by rw [List.length_set]; exact HLV.out
      have hpvl := HP9.out.chg hcl9 (fun x hx h => HCF.out (h ▸ hx))
      have hggl := HG9.out.trans hcl9 (fun x hx h => .inr (.inl h))
      have hssl : t5 + 1 ≤ wl.heap.size := Nat.le_trans hs9 hcl9.size
      refine (nwrite_any wl c p d F s S T N Nf U M key val false true _ lv at_ ⟨true, keys, vals.set ix val, []⟩ true pk nk ck (some ⟨gv, 0, none⟩) nk cv pd 0 cd hccl HCF.out ⟨rfl, by rw [HLK.out]; exact hkkl, by rw [hlk1]; exact hvvl, rd_zero HD2.out⟩ HLK.out hlk1 rfl hpvl hN HST.out hM hU HAT.out HOK2.out (fun _ => HSZ.out) (fun h => by cases h) (fun _ _ => rep_last HS0.out HIN.out)).mono ?_
      rintro e9 wr ⟨T2, l9, Nf9, U9, ⟨q, F', N', rfl, hq, hv, hN', hcr, hF', hqF, hqw⟩, hwr9, hst2, hr2⟩
      have HFIN := hid (And.intro hwr9 (And.intro hst2 hr2))
      have HX : Hid (∃ last', ChTo (fun k => F k ∨ k = c ∨ B0 ≤ k) 3 w c p d F s S N T2 l9 key val false true last' lv (.returned (.tuple #[.slice (some ⟨q, 0, none⟩) l9.length l9.length, .int .i64 0])) wr) := hid
        ⟨_, q, F', N', rfl, hq, hv, hN', hggl.trans hcr (fun _ _ h => .inl h), fun k hk => (hF' k hk).imp id (fun h => by have := hggl.size; omega), hqF, by have := hggl.size; omega, hccl.chg hcr HCF.out, fun h => by rcases hF' c h with h2 | h2; exact HCF.out h2; omega⟩
      clear hq hv hN' hcr hF' hqF hqw hwr9 hst2 hr2 hccl hggl hpvl hkkl hvvl
      go_wp2_with fail
      go_ret2
      obtain ⟨la9, hx⟩ := HX.out
      exact ⟨T2, l9, Nf9, U9, la9, hx, HFIN.out⟩
    case neg =>
      go_wp2_with fail
      obtain ⟨wl, hwl⟩ : ∃ x, w9.setCell ⟨c, 5, none⟩ (.bool false) = x := ⟨_, rfl⟩
      have hcl9 : Chg (fun k => k = c) w9 wl := by rw [← hwl]; exact Chg.setCell (fp := fun k => k = c) _ rfl _
      have hccl : Blk wl c (chC p key val false true false lv) TCh := by rw [← hwl]; exact HC9.out.set 5 (.bool false)
      rw [hwl]
      have hkkl : Rd wl 1 (.slice pk nk ck) nk (tv keys) := (Rd.of_own HK9.out).chg hcl9 (fun _ x hx _ h => by have := (own_lt HK9.out x hx).1; omega)
      have hvvl : Rd wl 1 (.slice (some ⟨gv, 0, none⟩) nk cv) nk (tv (vals.set ix val)) := (Rd.of_own HV9.out).chg hcl9 (fun _ x hx _ h => by have := (own_lt HV9.out x hx).1; omega)
      have hlk1 : (vals.set ix val).length = nk := by rw [List.length_set]; exact HLV.out
      have hpvl := HP9.out.chg hcl9 (fun x hx h => HCF.out (h ▸ hx))
      have hggl := HG9.out.trans hcl9 (fun x hx h => .inr (.inl h))
      have hssl : t5 + 1 ≤ wl.heap.size := Nat.le_trans hs9 hcl9.size
      refine (nwrite_any wl c p d F s S T N Nf U M key val false true _ lv at_ ⟨true, keys, vals.set ix val, []⟩ true pk nk ck (some ⟨gv, 0, none⟩) nk cv pd 0 cd hccl HCF.out ⟨rfl, by rw [HLK.out]; exact hkkl, by rw [hlk1]; exact hvvl, rd_zero HD2.out⟩ HLK.out hlk1 rfl hpvl hN HST.out hM hU HAT.out HOK2.out (fun _ => HSZ.out) (fun h => by cases h) (fun h => by cases h)).mono ?_
      rintro e9 wr ⟨T2, l9, Nf9, U9, ⟨q, F', N', rfl, hq, hv, hN', hcr, hF', hqF, hqw⟩, hwr9, hst2, hr2⟩
      have HFIN := hid (And.intro hwr9 (And.intro hst2 hr2))
      have HX : Hid (∃ last', ChTo (fun k => F k ∨ k = c ∨ B0 ≤ k) 3 w c p d F s S N T2 l9 key val false true last' lv (.returned (.tuple #[.slice (some ⟨q, 0, none⟩) l9.length l9.length, .int .i64 0])) wr) := hid
        ⟨_, q, F', N', rfl, hq, hv, hN', hggl.trans hcr (fun _ _ h => .inl h), fun k hk => (hF' k hk).imp id (fun h => by have := hggl.size; omega), hqF, by have := hggl.size; omega, hccl.chg hcr HCF.out, fun h => by rcases hF' c h with h2 | h2; exact HCF.out h2; omega⟩
      clear hq hv hN' hcr hF' hqF hqw hwr9 hst2 hr2 hccl hggl hpvl hkkl hvvl
      go_wp2_with fail
      go_ret2
      obtain ⟨la9, hx⟩ := HX.out
      exact ⟨T2, l9, Nf9, U9, la9, hx, HFIN.out⟩
end Go.Proofs.Ytdilkgcoecipjaa
