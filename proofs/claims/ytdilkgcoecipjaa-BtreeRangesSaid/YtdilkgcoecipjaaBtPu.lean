/- btree: node.put: parts in the place of kids. -/
import Derived.Test.YtdilkgcoecipjaaM11
import Derived.Test.YtdilkgcoecipjaaM8
namespace Go.Proofs.Ytdilkgcoecipjaa
open Go.RowKit
set_option linter.unusedVariables false

/-- parts in the place of kids -/
def putN (n : Nd) (i j : Nat) (l : List (Nat × Tx)) : Nd := ⟨false, n.keys.take i ++ (l.drop 1).map (·.2) ++ n.keys.drop j, [], n.kids.take i ++ l.map (·.1) ++ n.kids.drop (j + 1)⟩
theorem ptV_len (l : List (Nat × Tx)) : (ptV l).length = l.length * 2 := by
  induction l with
  | nil => rfl
  | cons a l ih => simp only [ptV, List.flatMap_cons, List.length_append, List.length_cons, List.length_nil] at ih ⊢; omega
theorem ptV_get {l : List (Nat × Tx)} {k : Nat} {x : Nat × Tx} (h : l[k]? = some x) : (ptV l)[k * 2]? = some (.int .i64 (x.1 : Int)) ∧ (ptV l)[k * 2 + 1]? = some (.string (B x.2)) := by
  induction l generalizing k with
  | nil => simp at h
  | cons a l ih =>
    cases k with
    | zero =>
      obtain rfl : a = x := by simpa using h
      exact ⟨rfl, rfl⟩
    | succ k =>
      have := ih (k := k) (by simpa using h)
      rw [show (k + 1) * 2 = k * 2 + 2 by omega]
      exact this
theorem kv_next {A : List Nat} {l : List (Nat × Tx)} {k : Nat} {x : Nat × Tx} (h : l[k]? = some x) : kv (A ++ (l.take (k + 1)).map (·.1)) = kv (A ++ (l.take k).map (·.1)) ++ [.int .i64 (x.1 : Int)] := by
  rw [List.take_add_one, h]; simp [kv]
theorem tv_next {A : List Tx} {l : List (Nat × Tx)} {k : Nat} {x : Nat × Tx} (h : l[k]? = some x) (hk : 0 < k) : tv (A ++ ((l.take (k + 1)).drop 1).map (·.2)) = tv (A ++ ((l.take k).drop 1).map (·.2)) ++ [.string (B x.2)] := by
  have hk2 := (List.getElem?_eq_some_iff.1 h).1
  rw [List.take_add_one, h, List.drop_append_of_le_length (by rw [List.length_take]; omega)]; simp [tv]
theorem tv_first {A : List Tx} {l : List (Nat × Tx)} : tv (A ++ ((l.take 1).drop 1).map (·.2)) = tv A := by
  cases l <;> simp [tv]

theorem results_row1 {P : Program} {fn : Func} {p : Tmp} {ty : TypeId} (h : fn.results = #[.cell p ty]) (tmps : Array Value) (w : World) (g : Nat) (t : TypeId) (cs : Array Value) (fr : Nat × Nat) (d : TypeDesc)
    (hp : tmps.getD p undef = .pointer (some ⟨g, 0, none⟩)) (hg : w.heap[g]? = some (.cells cs t fr))
    (hu : P.underlying ty = some d) (hd : (match d with | .struct _ | .array _ _ => true | _ => false) = true) (hi : (P.info? ty).map (·.size) = some cs.size) :
    (results fn tmps).run P w = .ok (.agg cs) w := by
  have hp' : tmps[p]?.getD undef = .pointer (some ⟨g, 0, none⟩) := by simpa using hp
  simp [results, h, hp', asAddr, run_loadVar_row w g t ty cs fr d hg hu hd hi]

set_option maxRecDepth 100000 in
set_option maxHeartbeats 8000000 in
theorem nput_any (w : World) (n : Nd) (lf : Bool) (pk : Option Addr) (nk ck : Nat) (pv : Option Addr) (nv cv : Nat) (pd : Option Addr) (nc cd : Nat) (i j q : Nat) (l : List (Nat × Tx)) (h : NdAt w lf pk ck pv cv pd cd n) (hnk : n.keys.length = nk) (hnv : n.vals.length = nv) (hnc : n.kids.length = nc) (hq : Blk w q (ptV l) TPt) (hij : i ≤ j) (hj : j ≤ nk) (hjc : j + 1 ≤ nc) (hb : nc ≤ 1000) (hbk : nk ≤ 1000) (hbl : l.length ≤ 1000) :
    Calls Try.prog 47 #[ndV lf pk nk ck pv nv cv pd nc cd, .int .i64 (i : Int), .int .i64 (j : Int), .slice (some ⟨q, 0, none⟩) l.length l.length] w fun e w' => ∃ (pa : Option Addr) (ca : Nat) (pe : Option Addr) (ce : Nat), e = .returned (ndV false pa (putN n i j l).keys.length ca none 0 0 pe (putN n i j l).kids.length ce) ∧ NdAt w' false pa ca none 0 pe ce (putN n i j l) ∧ Below w.heap.size w w' := by
  have HK := hid h.keys
  have HD := hid h.kids
  rw [hnk] at HK
  rw [hnc] at HD
  have HNK := hid hnk
  have HNC := hid hnc
  have HQ := hid hq
  have hql := hq.lt
  obtain ⟨m, hm⟩ : ∃ m, l.length = m := ⟨_, rfl⟩
  rw [hm] at hbl ⊢
  have HM := hid hm
  have HOut := hid (show (putN n i j l).keys.length = i + (m - 1) + (nk - j) ∧ (putN n i j l).kids.length = i + m + (nc - (j + 1)) from by simp [putN, hnk, hnc, hm]; omega)
  rw [HOut.out.1, HOut.out.2]
  clear h hnk hnv hnc hq hm
  unfold ndV
  go_enter Try.func47, Try.ntmps47
  go_wp2_with fail
  obtain ⟨b4, hb4⟩ : ∃ b, w.heap.size = b := ⟨_, rfl⟩
  obtain ⟨w1, hw1⟩ : ∃ x, w.alloc (.cells #[.bool lf, .slice pk nk ck, .slice pv nv cv, .slice pd nc cd] 59) = x := ⟨_, rfl⟩
  obtain ⟨w2, hw2⟩ : ∃ x, w1.alloc (.cells #[.bool false, .slice none 0 0, .slice none 0 0, .slice none 0 0] 59) = x := ⟨_, rfl⟩
  have s1 : w1.heap.size = b4 + 1 := by rw [← hw1, ← hb4]; simp
  have s2 : w2.heap.size = b4 + 2 := by rw [← hw2]; simp [s1]
  have g1 : Below b4 w w1 := by rw [← hw1]; exact (Below.refl _ _).alloc (by omega) _
  have g2 : Below w1.heap.size w1 w2 := by rw [← hw2]; exact (Below.refl _ _).alloc (Nat.le_refl _) _
  have t4 : Blk w1 b4 [.bool lf, .slice pk nk ck, .slice pv nv cv, .slice pd nc cd] TN := by rw [← hw1, ← hb4]; exact heap_alloc_new _ _
  have t8 : Blk w2 (b4 + 1) [.bool false, .slice none 0 0, .slice none 0 0, .slice none 0 0] TN := by rw [← hw2, ← s1]; exact heap_alloc_new _ _
  rw [hw1, hw2]
  rw [hb4]
  have HT4 := hid (t4.chg (Chg.new g2 NoFp) (fun h => h))
  have HT8 := hid t8
  have HBW := hid (g1.trans (g2.mono (by omega)))
  have hB2 : b4 + 2 ≤ w2.heap.size := by omega
  have hbb : Below w.heap.size w w2 := by rw [hb4]; exact HBW.out
  have HKw := hid (HK.out.new hbb)
  have HDw := hid (HD.out.new hbb)
  have HB4 := hid hb4
  have hqb : q < b4 := by omega
  clear t4 t8 g1 g2 s1 s2 hw1 hw2 hbb hb4 hql
  have hwj : IntKind.i64.wrap ((j : Int) + 1) = (j : Int) + 1 := IntWalk.i64_in _ ⟨by omega, by omega⟩
  obtain ⟨za, hza⟩ : ∃ x, w2.drew = x := ⟨_, rfl⟩
  have hbza : Below w2.heap.size w2 za := by rw [← hza]; exact below_drewN (Below.refl _ _) 1
  have hsza := hbza.size
  have HT4za := hid (HT4.out.chg (Chg.new hbza NoFp) (fun h => h))
  have HT8za := hid (HT8.out.chg (Chg.new hbza NoFp) (fun h => h))
  have HBWza := hid (HBW.out.trans (hbza.mono (by omega)))
  have HKza := hid (HKw.out.new hbza)
  have HDza := hid (HDw.out.new hbza)
  clear hbza
  refine wp_region_plan3 (fun w' => Blk w' b4 [.bool lf, .slice pk nk ck, .slice pv nv cv, .slice pd nc cd] TN) (fun j => !([4, 9].contains j)) (fun j => [1, 6].contains j) (fun _ => false)
    (.cons 0 (.cons 1 (.cons 2 (.cons 3 (.cons 5 (.cons 6 (.cons 7 (.cons 8 (.cons 4 (.cons 9 (.cons 10 (.cons 11 .nil)))))))))))) (by kernel_rfl) (by kernel_rfl) rfl (by kernel_rfl) (by kernel_rfl) (by rw [hza]; exact HT4za.out) ?_
  (apply wpPlan3_val; (case ho => rfl); (case hst => rfl); (case hw => rfl); (case hv => intro w' hS; (try (have hS := hS rfl; obtain ⟨x0, x1, x2, x3, _, _, _, _⟩ := four_cells hS)); go_simp; first | done | rfl); intro K hK; go_simp; refine hK _ ?_; clear hK K)
  (apply wpPlan3_val; (case ho => rfl); (case hst => rfl); (case hw => rfl); (case hv => intro w' hS; (try (have hS := hS rfl; obtain ⟨x0, x1, x2, x3, _, _, _, _⟩ := four_cells hS)); go_simp; first | done | rfl); intro K hK; go_simp; refine hK _ ?_; clear hK K)
  (apply wpPlan3_val; (case ho => rfl); (case hst => rfl); (case hw => rfl); (case hv => intro w' hS; (try (have hS := hS rfl; obtain ⟨x0, x1, x2, x3, _, _, _, _⟩ := four_cells hS)); go_simp; first | done | rfl); intro K hK; go_simp; refine hK _ ?_; clear hK K)
  refine wpPlan3_slice rfl rfl rfl _ _ _ _ rfl TI 1 Try.underlying44 (by kernel_rfl) _ _ _ rfl HDza.out.caps.1 HDza.out.caps.2 0 i i (by omega) rfl ⟨_, (i : Int), rfl, by omega, by omega⟩ (by omega) (by omega) ?_
  intro pka cka hska K hK
  go_simp
  refine hK _ ?_
  clear hK K
  have HSka := hid hska
  clear hska
  (apply wpPlan3_val; (case ho => rfl); (case hst => rfl); (case hw => rfl); (case hv => intro w' hS; (try (have hS := hS rfl; obtain ⟨x0, x1, x2, x3, _, _, _, _⟩ := four_cells hS)); go_simp; first | done | rfl); intro K hK; go_simp; refine hK _ ?_; clear hK K)
  (apply wpPlan3_val; (case ho => rfl); (case hst => rfl); (case hw => rfl); (case hv => intro w' hS; (try (have hS := hS rfl; obtain ⟨x0, x1, x2, x3, _, _, _, _⟩ := four_cells hS)); go_simp; first | done | rfl); intro K hK; go_simp; refine hK _ ?_; clear hK K)
  (apply wpPlan3_val; (case ho => rfl); (case hst => rfl); (case hw => rfl); (case hv => intro w' hS; (try (have hS := hS rfl; obtain ⟨x0, x1, x2, x3, _, _, _, _⟩ := four_cells hS)); go_simp; first | done | rfl); intro K hK; go_simp; refine hK _ ?_; clear hK K)
  refine wpPlan3_slice rfl rfl rfl _ _ _ _ rfl TSt 1 Try.underlying33 (by kernel_rfl) _ _ _ rfl HKza.out.caps.1 HKza.out.caps.2 0 i i (by omega) rfl ⟨_, (i : Int), rfl, by omega, by omega⟩ (by omega) (by omega) ?_
  intro pkb ckb hskb K hK
  go_simp
  refine hK _ ?_
  clear hK K
  have HSkb := hid hskb
  clear hskb
  rw [hza]
  clear hza
  refine wpPlan3_list rfl rfl rfl (fun K hK => ?_)
  refine wpList_step (fun K2 hK2 => ?_)
  go_simp
  refine (clone_int _ _ _ _ za (HSka.out _ _ HDza.out) (by rw [kv_to _ _]; exact kv_one _) (by omega)).mono ?_
  rintro e1 w1 ⟨p1, c1, rfl, ho1, hb1⟩
  go_simp
  refine hK2 _ _ ?_
  clear hK2 K2
  simp only [wpList]
  rw [kv_to _ _] at ho1
  have HOD := hid (own_base (B0 := b4 + 2) ho1 (by omega))
  have hz1 := hb1.size
  have HT41 := hid (HT4za.out.chg (Chg.new hb1 NoFp) (fun h => h))
  have HT81 := hid (HT8za.out.chg (Chg.new hb1 NoFp) (fun h => h))
  have HBW1 := hid (HBWza.out.trans (hb1.mono (by omega)))
  have HK1 := hid (HKza.out.new hb1)
  have HD1 := hid (HDza.out.new hb1)
  clear hb1
  refine hK _ _ (fun _ => HT41.out) ?_
  clear hK K
  refine wpPlan3_list rfl rfl rfl (fun K hK => ?_)
  refine wpList_step (fun K2 hK2 => ?_)
  go_simp
  refine (clone_str _ _ _ _ w1 (HSkb.out _ _ HK1.out) (by rw [tv_to _ _]; exact tv_one _) (by omega)).mono ?_
  rintro e2 w2 ⟨p2, c2, rfl, ho2, hb2⟩
  go_simp
  refine hK2 _ _ ?_
  clear hK2 K2
  simp only [wpList]
  rw [tv_to _ _] at ho2
  have HOK := hid (own_base (B0 := b4 + 2) ho2 (by omega))
  have hz2 := hb2.size
  have HOD2 := hid (own_new HOD.out hb2)
  have HT42 := hid (HT41.out.chg (Chg.new hb2 NoFp) (fun h => h))
  have HT82 := hid (HT81.out.chg (Chg.new hb2 NoFp) (fun h => h))
  have HBW2 := hid (HBW1.out.trans (hb2.mono (by omega)))
  have HK2 := hid (HK1.out.new hb2)
  have HD2 := hid (HD1.out.new hb2)
  clear hb2
  refine hK _ _ (fun _ => HT42.out) ?_
  clear hK K
  iterate 2 (apply wpPlan3_val; (case ho => rfl); (case hst => rfl); (case hw => rfl); (case hv => intro w' hS; (try (have hS := hS rfl; obtain ⟨x0, x1, x2, x3, _, _, _, _⟩ := four_cells hS)); go_simp; first | done | rfl); intro K hK; go_simp; refine hK _ ?_; clear hK K)
  refine wpPlan3_nil ?_
  simp only [Qn]
  go_wp2_with fail
  go_loopw [25, 9, 10] (fun v25 v9 v10 wr => ∃ (k : Nat) (pe : Option Addr) (ce : Nat) (pa : Option Addr) (ca : Nat), v25 = .int .i64 (k : Int) ∧ v9 = .slice pe (i + k) ce ∧ v10 = .slice pa (i + (k - 1)) ca ∧ k ≤ m ∧ Hid (wr.ownsRow (b4 + 2) TI 1 (.slice pe (i + k) ce) (i + k) (kv (n.kids.take i ++ (l.take k).map (·.1)))) ∧ Hid (wr.ownsRow (b4 + 2) TSt 1 (.slice pa (i + (k - 1)) ca) (i + (k - 1)) (tv (n.keys.take i ++ ((l.take k).drop 1).map (·.2)))) ∧ Hid (Blk wr b4 [.bool lf, .slice pk nk ck, .slice pv nv cv, .slice pd nc cd] TN) ∧ Hid (Blk wr (b4 + 1) [.bool false, .slice none 0 0, .slice none 0 0, .slice none 0 0] TN) ∧ Hid (Below b4 w wr) ∧ b4 + 2 ≤ wr.heap.size) (fun v25 _ _ _ => m - (intOf v25).toNat)
  case atStart => exact ⟨0, p1, c1, p2, c2, rfl, rfl, rfl, Nat.zero_le _, hid (by simpa using HOD2.out), hid (by simpa using HOK.out), HT42, HT82, HBW2, by omega⟩
  case round =>
    obtain ⟨k, pe, ce, pa, ca, rfl, rfl, rfl, hkm, HOE, HOA, HX4, HX8, HBR, hwr⟩ := hrel
    by_cases hlt : k < m
    · have hlt2 : (k : Int) < (m : Int) := by omega
      obtain ⟨x, hx⟩ : ∃ x, l[k]? = some x := ⟨_, List.getElem?_eq_getElem (by rw [HM.out]; exact hlt)⟩
      have hql := HQ.out.lt
      have HQr := hid (show Blk wr q (ptV l) TPt from by have h := HBR.out.block q hqb; unfold Blk; rw [h]; exact HQ.out)
      have hq0 : wr.cell? ⟨q, k * 2, none⟩ = some (.int .i64 (x.1 : Int)) := (HQr.out.cell _).trans (ptV_get hx).1
      have hq1 : wr.cell? ⟨q, k * 2 + 1, none⟩ = some (.string (B x.2)) := (HQr.out.cell _).trans (ptV_get hx).2
      have HXX := hid hx
      clear hx
      go_wp2_with (at_builtin; refine wp_keep ?_)
      refine hid ?_
      obtain ⟨bx, hbx⟩ : ∃ b, wr.heap.size = b := ⟨_, rfl⟩
      obtain ⟨v1, hv1⟩ : ∃ y, wr.alloc (.cells #[.int .i64 (x.1 : Int), .string (B x.2)] TPt) = y := ⟨_, rfl⟩
      obtain ⟨v2, hv2⟩ : ∃ y, v1.alloc (.cells #[.int .i64 (x.1 : Int)] TI) = y := ⟨_, rfl⟩
      have e1 : Below wr.heap.size wr v1 := by rw [← hv1]; exact (Below.refl _ _).alloc (Nat.le_refl _) _
      have e2 : Below v1.heap.size v1 v2 := by rw [← hv2]; exact (Below.refl _ _).alloc (Nat.le_refl _) _
      have z1 : v1.heap.size = bx + 1 := by rw [← hv1, ← hbx]; simp
      have z2 : v2.heap.size = bx + 2 := by rw [← hv2]; simp [z1]
      have HP1 : Blk v1 bx [.int .i64 (x.1 : Int), .string (B x.2)] TPt := by rw [← hv1, ← hbx]; exact heap_alloc_new _ _
      have HR2 := hid (show Rd v2 1 (.slice (some ⟨bx + 1, 0, none⟩) 1 1) 1 [.int .i64 (x.1 : Int)] from by rw [← hv2, ← z1]; exact Rd.fresh1 _ _ _)
      rw [hv1, hv2]
      rw [hbx]
      have e12 : Below wr.heap.size wr v2 := e1.trans (e2.mono (by omega))
      have HP2 := hid (HP1.chg (Chg.new e2 NoFp) (fun h => h))
      have HOE2 := hid (own_new HOE.out e12)
      have HOA2 := hid (own_new HOA.out e12)
      have HX42 := hid (HX4.out.chg (Chg.new e12 NoFp) (fun h => h))
      have HX82 := hid (HX8.out.chg (Chg.new e12 NoFp) (fun h => h))
      have HB2r := hid (HBR.out.trans (e12.mono (by omega)))
      clear e1 e2 e12 hv1 hv2 HP1 hq0 hq1
      refine wpList_append_rd rfl _ _ TIs rfl (b4 + 2) TI _ 1 8 Try.underlying44 infoTI rfl (by decide) _ (i + k) _ rfl HOE2.out _ 1 [.int .i64 (x.1 : Int)] rfl HR2.out (by simp [Value.oneCell']) (by simp only [maxLen]; omega) (by omega) (by omega) ?_
      intro pe3 ce3 v3 ho3 hg3 _
      rw [← kv_next HXX.out] at ho3
      have hc3 : Chg (fun g => Value.ownBlock (.slice pe (i + k) ce) = some g) v2 v3 := Chg.grown hg3
      have hlt3 : ∀ g, Value.ownBlock (.slice pe (i + k) ce) = some g → b4 + 2 ≤ g ∧ g < v2.heap.size := own_lt HOE2.out
      have z3 : bx + 2 ≤ v3.heap.size := by have := hc3.size; omega
      have HOE3 := hid (show v3.ownsRow (b4 + 2) TI 1 (.slice pe3 (i + (k + 1)) ce3) (i + (k + 1)) (kv (n.kids.take i ++ (l.take (k + 1)).map (·.1))) from ho3)
      have HOA3 := hid (own_chg HOA2.out hc3 (own_ne HOA2.out HOE2.out (by decide)))
      have HX43 := hid (HX42.out.chg hc3 (fun h => by have := (hlt3 _ h).1; omega))
      have HX83 := hid (HX82.out.chg hc3 (fun h => by have := (hlt3 _ h).1; omega))
      have HP3 := hid (HP2.out.chg hc3 (own_blk_ne HOE2.out HP2.out (by decide)))
      have HB3r := hid (HB2r.out.trans (hc3.below (B := b4) (fun g hg => by have := (hlt3 _ hg).1; omega) (by omega)))
      clear ho3 hg3 hc3 hlt3 HOE2 HOA2 HX42 HX82 HP2 HB2r HR2
      rcases Nat.eq_zero_or_pos k with hk0 | hk0
      · subst hk0
        go_wp2_with fail
        go_roundw
        case rel => exact ⟨1, pe3, ce3, pa, ca, by first | rfl | simp, by first | rfl | simp, by first | rfl | simp, hlt, HOE3, hid (by have h := HOA3.out; simp only [List.take_zero, List.drop_nil, List.map_nil, List.append_nil] at h; rw [tv_first]; exact h), HX43, HX83, HB3r, by omega⟩
        case measure => simp [intOf]; omega
      · have hk2 : (0 : Int) < (k : Int) := by omega
        have hx1 : v3.cell? ⟨bx, 1, none⟩ = some (.string (B x.2)) := HP3.out.cell 1
        go_wp2_with (at_builtin; refine wp_keep ?_)
        refine hid ?_
        obtain ⟨v4, hv4⟩ : ∃ y, v3.alloc (.cells #[.string (B x.2)] TSt) = y := ⟨_, rfl⟩
        have e4 : Below v3.heap.size v3 v4 := by rw [← hv4]; exact (Below.refl _ _).alloc (Nat.le_refl _) _
        have HR4 := hid (show Rd v4 1 (.slice (some ⟨v3.heap.size, 0, none⟩) 1 1) 1 [.string (B x.2)] from by rw [← hv4]; exact Rd.fresh1 _ _ _)
        rw [hv4]
        have z4 := e4.size
        have HOE4 := hid (own_new HOE3.out e4)
        have HOA4 := hid (own_new HOA3.out e4)
        have HX44 := hid (HX43.out.chg (Chg.new e4 NoFp) (fun h => h))
        have HX84 := hid (HX83.out.chg (Chg.new e4 NoFp) (fun h => h))
        have HB4r := hid (HB3r.out.trans (e4.mono (by omega)))
        clear e4 hv4 HOE3 HOA3 HX43 HX83 HB3r
        refine wpList_append_rd rfl _ _ TSs rfl (b4 + 2) TSt _ 1 16 Try.underlying33 infoSt rfl (by decide) _ (i + (k - 1)) _ rfl HOA4.out _ 1 [.string (B x.2)] rfl HR4.out (by simp [Value.oneCell']) (by simp only [maxLen]; omega) (by omega) (by omega) ?_
        intro pa5 ca5 v5 ho5 hg5 _
        rw [← tv_next HXX.out hk0] at ho5
        have hc5 : Chg (fun g => Value.ownBlock (.slice pa (i + (k - 1)) ca) = some g) v4 v5 := Chg.grown hg5
        have hlt5 : ∀ g, Value.ownBlock (.slice pa (i + (k - 1)) ca) = some g → b4 + 2 ≤ g ∧ g < v4.heap.size := own_lt HOA4.out
        have z5 : bx + 2 ≤ v5.heap.size := by have := hc5.size; omega
        have hkk : i + (k - 1) + 1 = i + (k + 1 - 1) := by omega
        rw [hkk] at ho5 ⊢
        have HOA5 := hid ho5
        have HOE5 := hid (own_chg HOE4.out hc5 (own_ne HOE4.out HOA4.out (by decide)))
        have HX45 := hid (HX44.out.chg hc5 (fun h => by have := (hlt5 _ h).1; omega))
        have HX85 := hid (HX84.out.chg hc5 (fun h => by have := (hlt5 _ h).1; omega))
        have HB5r := hid (HB4r.out.trans (hc5.below (B := b4) (fun g hg => by have := (hlt5 _ hg).1; omega) (by omega)))
        clear ho5 hg5 hc5 hlt5 HOE4 HOA4 HX44 HX84 HB4r HR4
        go_wp2_with fail
        go_roundw
        case rel => exact ⟨k + 1, pe3, ce3, pa5, ca5, by first | rfl | (congr 1), rfl, rfl, hlt, HOE5, HOA5, HX45, HX85, HB5r, by omega⟩
        case measure => simp [intOf]; omega
    · have hlt2 : ¬ (k : Int) < (m : Int) := by omega
      obtain rfl : k = m := by omega
      rw [List.take_of_length_le (l := l) (by rw [HM.out]; exact Nat.le_refl _)] at HOE HOA
      go_wp2_with fail
      obtain ⟨zb, hzb⟩ : ∃ x, wr.drew = x := ⟨_, rfl⟩
      have hbzb : Below wr.heap.size wr zb := by rw [← hzb]; exact below_drewN (Below.refl _ _) 1
      have hszb := hbzb.size
      have HOEzb := hid (own_new HOE.out hbzb)
      have HOAzb := hid (own_new HOA.out hbzb)
      have HX4zb := hid (HX4.out.chg (Chg.new hbzb NoFp) (fun h => h))
      have HX8zb := hid (HX8.out.chg (Chg.new hbzb NoFp) (fun h => h))
      have HBRzb := hid (HBR.out.trans (hbzb.mono (by omega)))
      clear hbzb
      have HKz := hid (HK.out.new (by rw [HB4.out]; exact HBRzb.out))
      have HDz := hid (HD.out.new (by rw [HB4.out]; exact HBRzb.out))
      refine wp_region_plan3 (fun w' => Blk w' b4 [.bool lf, .slice pk nk ck, .slice pv nv cv, .slice pd nc cd] TN) (fun j => !([5, 12, 14].contains j)) (fun j => [2, 8].contains j) (fun _ => false)
        (.cons 0 (.cons 1 (.cons 2 (.cons 3 (.cons 4 (.cons 6 (.cons 7 (.cons 8 (.cons 9 (.cons 10 (.cons 11 (.cons 5 (.cons 12 (.cons 13 (.cons 14 .nil))))))))))))))) (by kernel_rfl) (by kernel_rfl) rfl (by kernel_rfl) (by kernel_rfl) (by rw [hzb]; exact HX4zb.out) ?_
      (apply wpPlan3_val; (case ho => rfl); (case hst => rfl); (case hw => rfl); (case hv => intro w' hS; (try (have hS := hS rfl; obtain ⟨x0, x1, x2, x3, _, _, _, _⟩ := four_cells hS)); go_simp; first | done | rfl); intro K hK; go_simp; refine hK _ ?_; clear hK K)
      (apply wpPlan3_val; (case ho => rfl); (case hst => rfl); (case hw => rfl); (case hv => intro w' hS; (try (have hS := hS rfl; obtain ⟨x0, x1, x2, x3, _, _, _, _⟩ := four_cells hS)); go_simp; first | done | rfl); intro K hK; go_simp; refine hK _ ?_; clear hK K)
      (apply wpPlan3_val; (case ho => rfl); (case hst => rfl); (case hw => rfl); (case hv => intro w' hS; (try (have hS := hS rfl; obtain ⟨x0, x1, x2, x3, _, _, _, _⟩ := four_cells hS)); go_simp; first | done | rfl); intro K hK; go_simp; refine hK _ ?_; clear hK K)
      (apply wpPlan3_val; (case ho => rfl); (case hst => rfl); (case hw => rfl); (case hv => intro w' hS; (try (have hS := hS rfl; obtain ⟨x0, x1, x2, x3, _, _, _, _⟩ := four_cells hS)); go_simp; first | done | rfl); intro K hK; go_simp; refine hK _ ?_; clear hK K)
      refine wpPlan3_slice rfl rfl rfl _ _ _ _ rfl TSt 1 Try.underlying33 (by kernel_rfl) _ _ _ rfl HKz.out.caps.1 HKz.out.caps.2 j nk (nk - j) (by omega) ⟨_, (j : Int), rfl, by omega, by omega⟩ rfl (by omega) (by omega) ?_
      intro pna cna hsna K hK
      go_simp
      refine hK _ ?_
      clear hK K
      have HSna := hid hsna
      clear hsna
      (apply wpPlan3_val; (case ho => rfl); (case hst => rfl); (case hw => rfl); (case hv => intro w' hS; (try (have hS := hS rfl; obtain ⟨x0, x1, x2, x3, _, _, _, _⟩ := four_cells hS)); go_simp; first | done | rfl); intro K hK; go_simp; refine hK _ ?_; clear hK K)
      (apply wpPlan3_val; (case ho => rfl); (case hst => rfl); (case hw => rfl); (case hv => intro w' hS; (try (have hS := hS rfl; obtain ⟨x0, x1, x2, x3, _, _, _, _⟩ := four_cells hS)); go_simp; first | done | rfl); intro K hK; go_simp; refine hK _ ?_; clear hK K)
      (apply wpPlan3_val; (case ho => rfl); (case hst => rfl); (case hw => rfl); (case hv => intro w' hS; (try (have hS := hS rfl; obtain ⟨x0, x1, x2, x3, _, _, _, _⟩ := four_cells hS)); go_simp; first | done | rfl); intro K hK; go_simp; refine hK _ ?_; clear hK K)
      (apply wpPlan3_val; (case ho => rfl); (case hst => rfl); (case hw => rfl); (case hv => intro w' hS; (try (have hS := hS rfl; obtain ⟨x0, x1, x2, x3, _, _, _, _⟩ := four_cells hS)); go_simp; first | done | rfl); intro K hK; go_simp; refine hK _ ?_; clear hK K)
      (apply wpPlan3_val; (case ho => rfl); (case hst => rfl); (case hw => rfl); (case hv => intro w' hS; (try (have hS := hS rfl; obtain ⟨x0, x1, x2, x3, _, _, _, _⟩ := four_cells hS)); go_simp; first | done | rfl); intro K hK; go_simp; refine hK _ ?_; clear hK K)
      refine wpPlan3_slice rfl rfl rfl _ _ _ _ rfl TI 1 Try.underlying44 (by kernel_rfl) _ _ _ rfl HDz.out.caps.1 HDz.out.caps.2 (j + 1) nc (nc - (j + 1)) (by omega) ⟨_, _, rfl, by first | omega | (rw [hwj]; omega), by first | omega | (rw [hwj]; omega)⟩ rfl (by omega) (by omega) ?_
      intro pnb cnb hsnb K hK
      go_simp
      refine hK _ ?_
      clear hK K
      have HSnb := hid hsnb
      clear hsnb
      rw [hzb]
      clear hzb
      have hlk : (n.keys.take i ++ (l.drop 1).map (·.2)).length = i + (k - 1) := by simp [HNK.out, HM.out]; omega
      refine wpPlan3_list rfl rfl rfl (fun K hK => ?_)
      refine wpList_append_rd rfl _ _ TSs rfl (b4 + 2) TSt _ 1 16 Try.underlying33 infoSt rfl (by decide) _ (i + (k - 1)) _ rfl HOAzb.out _ (nk - j) _ rfl (HSna.out _ _ HKz.out) (by rw [tv_from _ (m := nk - j) (by rw [HNK.out]; omega)]; exact tv_one _) (by simp only [maxLen]; omega) (by omega) (by omega) ?_
      intro p6 c6 w6 ho6 hg6 _
      rw [tv_from _ (m := nk - j) (by rw [HNK.out]; omega)] at ho6
      have hc6 := Chg.grown hg6
      have hl6 := own_lt HOAzb.out
      have hz6 := hc6.size
      have HOE6 := hid (own_chg HOEzb.out hc6 (own_ne HOEzb.out HOAzb.out (by decide)))
      have HX46 := hid (HX4zb.out.chg hc6 (fun h => by have := (hl6 _ h).1; omega))
      have HX86 := hid (HX8zb.out.chg hc6 (fun h => by have := (hl6 _ h).1; omega))
      have HBR6 := hid (HBRzb.out.trans (hc6.below (B := b4) (fun g hg => by have := (hl6 _ hg).1; omega) (by omega)))
      have HOA6 := hid ho6
      simp only [wpList]
      refine hK _ _ (fun _ => HX46.out) ?_
      clear hK K
      refine wpPlan3_list rfl rfl rfl (fun K hK => ?_)
      refine wpList_append_rd rfl _ _ TIs rfl (b4 + 2) TI _ 1 8 Try.underlying44 infoTI rfl (by decide) _ (i + k) _ rfl HOE6.out _ (nc - (j + 1)) _ rfl (HSnb.out _ _ (HDz.out.chg hc6 (fun _ g hg hs h => by have := (hl6 g h).1; have := HD.out.lt (by omega) (by decide) g hg; have := HB4.out; omega))) (by rw [kv_from _ (m := nc - (j + 1)) (by rw [HNC.out]; omega)]; exact kv_one _) (by simp only [maxLen]; omega) (by omega) (by omega) ?_
      intro p7 c7 w7 ho7 hg7 _
      rw [kv_from _ (m := nc - (j + 1)) (by rw [HNC.out]; omega)] at ho7
      have hc7 := Chg.grown hg7
      have hl7 := own_lt HOE6.out
      have hz7 := hc7.size
      have HOA7 := hid (own_chg HOA6.out hc7 (own_ne HOA6.out HOE6.out (by decide)))
      have HX47 := hid (HX46.out.chg hc7 (fun h => by have := (hl7 _ h).1; omega))
      have HX87 := hid (HX86.out.chg hc7 (fun h => by have := (hl7 _ h).1; omega))
      have HBR7 := hid (HBR6.out.trans (hc7.below (B := b4) (fun g hg => by have := (hl7 _ hg).1; omega) (by omega)))
      have HOE7 := hid ho7
      simp only [wpList]
      refine hK _ _ (fun _ => HX47.out) ?_
      clear hK K
      (apply wpPlan3_val; (case ho => rfl); (case hst => rfl); (case hw => rfl); (case hv => intro w' hS; (try (have hS := hS rfl; obtain ⟨x0, x1, x2, x3, _, _, _, _⟩ := four_cells hS)); go_simp; first | done | rfl); intro K hK; go_simp; refine hK _ ?_; clear hK K)
      obtain ⟨_, _, _, _, f0, f1, f2, f3⟩ := four_cells HX87.out
      refine wpPlan3_list rfl rfl rfl (fun K hK => ?_)
      refine wpList_step (fun K2 hK2 => ?_)
      go_simp
      refine hK2 _ _ ?_
      clear hK2 K2
      simp only [wpList]
      have hfin := nset4 HX87.out (.bool false) (.slice p6 (i + (k - 1) + (nk - j)) c6) (.slice none 0 0) (.slice p7 (i + k + (nc - (j + 1))) c7)
      have hch := nchg4 (w := w7) (g := b4 + 1) (.bool false) (.slice p6 (i + (k - 1) + (nk - j)) c6) (.slice none 0 0) (.slice p7 (i + k + (nc - (j + 1))) c7)
      obtain ⟨s9, hs9⟩ : ∃ x, (((w7.setCell ⟨b4 + 1, 0, none⟩ (.bool false)).setCell ⟨b4 + 1, 1, none⟩ (.slice p6 (i + (k - 1) + (nk - j)) c6)).setCell ⟨b4 + 1, 2, none⟩ (.slice none 0 0)).setCell ⟨b4 + 1, 3, none⟩ (.slice p7 (i + k + (nc - (j + 1))) c7) = x := ⟨_, rfl⟩
      rw [hs9] at hfin hch ⊢
      clear hs9 f0 f1 f2 f3
      have HX49 := hid (HX47.out.chg hch (by omega))
      have HOA9 := hid (own_chg HOA7.out hch (fun g hg h => by have := (own_lt HOA7.out g hg).1; omega))
      have HOE9 := hid (own_chg HOE7.out hch (fun g hg h => by have := (own_lt HOE7.out g hg).1; omega))
      have HB9 := hid (HBR7.out.trans (hch.below (B := b4) (by omega) (by omega)))
      have HF9 := hid hfin
      clear hfin hch
      refine hK _ _ (fun _ => HX49.out) ?_
      clear hK K
      refine wpPlan3_nil ?_
      simp only [Qn]
      go_wp2_with fail
      refine bodyPost_ret (results_row1 rfl _ _ (b4 + 1) TN _ (0, 0) _ rfl HF9.out Try.underlying59 rfl (by kernel_rfl)) rfl ?_
      have ha := Rd.of_own HOA9.out
      have he := Rd.of_own HOE9.out
      rw [← tv_app] at ha
      rw [← kv_app] at he
      exact ⟨p6, c6, p7, c7, rfl, ⟨rfl, by rw [HOut.out.1]; exact ha, Rd.nil _ _, by rw [HOut.out.2]; exact he⟩, by rw [HB4.out]; exact HB9.out⟩
end Go.Proofs.Ytdilkgcoecipjaa
