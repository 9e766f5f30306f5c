/- btree: node.halves. btree: node.halves of any node that is too great. -/
import Derived.Test.YtdilkgcoecipjaaM7
import Derived.Test.YtdilkgcoecipjaaM10
namespace Go.Proofs.Ytdilkgcoecipjaa
open Go.RowKit
set_option linter.unusedVariables false

section
variable {P : Program} {ops : Array Oper} {Q : Exit → Act → World → Prop} {S : World → Prop}
/-- a slice of a slice, in a region whose order is open -/
theorem wpPlan3_slice {st ln brk : Nat → Bool} {j : Nat} {rest : Plan} {a : Act} {w : World} {o : Oper} (ho : ops[j]? = some o) (hst : st j = true) (hw : Region.wanted o (yielded ops a.tmps) = true) (t : TypeId) (x : Operand) (l h : Option Operand) (hop : o.op = .slice t x l h none)
    (e : TypeId) (size : Nat) (ht : P.underlying t = some (.slice e)) (hsz : (P.info? e).map (·.size) = some size) (p : Option Addr) (n cap : Nat) (hx : a.eval x = .slice p n cap) (hp : p = none → cap = 0) (hnc : n ≤ cap) (lo hi m : Nat) (hm : hi - lo = m) (hl : Bnd a l 0 lo) (hh : Bnd a h n hi) (h1 : lo ≤ hi) (h2 : hi ≤ n)
    (hK : ∀ (p' : Option Addr) (c' : Nat), (∀ w' xs, Rd w' size (.slice p n cap) n xs → Rd w' size (.slice p' m c') m ((xs.drop (lo * size)).take (m * size))) → ∀ K : Act → Prop, (∀ a', wpPlan3 P ops Q S st ln brk rest a' w → K a') → K (a.put o.dst (.slice p' m c'))) :
    wpPlan3 P ops Q S st ln brk (.cons j rest) a w := by
  subst hm
  have hl' : (l.map a.eval = none ∧ lo = 0) ∨ ∃ k, l.map a.eval = some (.int k (lo : Int)) := by
    cases l with
    | none => exact .inl ⟨rfl, hl⟩
    | some y => obtain ⟨k, i, h7, h8, h9⟩ := hl; exact .inr ⟨k, by simp [h7, ← h9, Int.toNat_of_nonneg h8]⟩
  have hh' : (h.map a.eval = none ∧ hi = n) ∨ ∃ k, h.map a.eval = some (.int k (hi : Int)) := by
    cases h with
    | none => exact .inl ⟨rfl, hh⟩
    | some y => obtain ⟨k, i, h7, h8, h9⟩ := hh; exact .inr ⟨k, by simp [h7, ← h9, Int.toNat_of_nonneg h8]⟩
  refine wpPlan3_val (.slice (if cap = lo then p else p.map (·.add (lo * size))) (hi - lo) (cap - lo)) ho hst hw (fun w' _ => ?_) (hK _ _ (fun w' xs hr => (slice_rd_of w' size p n cap xs hr lo hi h1 h2).1))
  have hr := run_slice_rd (P := P) w' t e size ht hsz p n cap lo hi hp h1 (by omega) _ _ hl' hh'
  unfold execOp
  simp only [hop, hx, Option.map_none, hr, Sem.run_bind, Sem.run_pure, Result.andThen_ok]
end
theorem Rd.caps {w : World} {size n m c : Nat} {p : Option Addr} {xs : List Value} (h : Rd w size (.slice p m c) n xs) : (p = none → c = 0) ∧ n ≤ c := by
  obtain ⟨_, p', c', he, h1, _, h2, _⟩ := h
  cases he
  exact ⟨h2, h1⟩
theorem tv_to (l : List Tx) (i : Nat) : ((tv l).drop (0 * 1)).take (i * 1) = tv (l.take i) := by simp [tv]
theorem tv_from (l : List Tx) {i m : Nat} (h : l.length = i + m) : ((tv l).drop (i * 1)).take (m * 1) = tv (l.drop i) := by
  rw [List.take_of_length_le (by simp [tv]; omega)]; simp [tv]
theorem kv_to (l : List Nat) (i : Nat) : ((kv l).drop (0 * 1)).take (i * 1) = kv (l.take i) := by simp [kv]
theorem kv_from (l : List Nat) {i m : Nat} (h : l.length = i + m) : ((kv l).drop (i * 1)).take (m * 1) = kv (l.drop i) := by
  rw [List.take_of_length_le (by simp [kv]; omega)]; simp [kv]
theorem results_row2_tmp {P : Program} {fn : Func} {p q u : Tmp} {ty : TypeId} (h : fn.results = #[.cell p ty, .cell q ty, .tmp u]) (tmps : Array Value) (w : World) (g g2 : Nat) (t : TypeId) (cs cs2 : Array Value) (fr fr2 : Nat × Nat) (d : TypeDesc)
    (hp : tmps.getD p undef = .pointer (some ⟨g, 0, none⟩)) (hg : w.heap[g]? = some (.cells cs t fr)) (hp2 : tmps.getD q undef = .pointer (some ⟨g2, 0, none⟩)) (hg2 : w.heap[g2]? = some (.cells cs2 t fr2))
    (hu : P.underlying ty = some d) (hd : (match d with | .struct _ | .array _ _ => true | _ => false) = true) (hi : (P.info? ty).map (·.size) = some cs.size) (hi2 : (P.info? ty).map (·.size) = some cs2.size) :
    (results fn tmps).run P w = .ok (.tuple #[.agg cs, .agg cs2, tmps.getD u undef]) w := by
  have hp' : tmps[p]?.getD undef = .pointer (some ⟨g, 0, none⟩) := by simpa using hp
  have hp2' : tmps[q]?.getD undef = .pointer (some ⟨g2, 0, none⟩) := by simpa using hp2
  simp [results, h, hp', hp2', asAddr, run_loadVar_row w g t ty cs fr d hg hu hd hi, run_loadVar_row w g2 t ty cs2 fr2 d hg2 hu hd hi2]


theorem rd_off {w w' : World} {fp : Nat → Prop} {size n : Nat} {v : Value} {xs : List Value} (h : Rd w size v n xs) (hc : Chg fp w w') (hn : ∀ g, v.ownBlock = some g → ¬ fp g) : Rd w' size v n xs :=
  h.chg hc (fun _ g hg _ => hn g hg)
set_option maxRecDepth 100000 in
set_option maxHeartbeats 8000000 in
theorem halves_leaf (w : World) (n : Nd) (pk : Option Addr) (nk ck : Nat) (pv : Option Addr) (cv : Nat) (pd : Option Addr) (nc cd : Nat) (last : Bool) (PI : Nat → Prop) (h : NdAt w true pk ck pv cv pd cd n) (hnk : n.keys.length = nk) (hnv : n.vals.length = nk) (hPI : ∀ i, PI i → 1 ≤ i ∧ i < nk) (hb : nk ≤ 100000)
    (hcut : ∀ w1, Below w.heap.size w w1 → Calls Try.prog 94 #[ndV true pk nk ck pv nk cv pd nc cd, .bool last] w1 fun e w2 => ∃ i : Nat, e = .returned (.int .i64 (i : Int)) ∧ PI i ∧ Below w1.heap.size w1 w2) :
    Calls Try.prog 89 #[ndV true pk nk ck pv nk cv pd nc cd, .bool last] w fun e w' => ∃ (i : Nat) (k : Tx) (pa : Option Addr) (ca : Nat) (pa2 : Option Addr) (ca2 : Nat) (pb : Option Addr) (cb : Nat) (pb2 : Option Addr) (cb2 : Nat), PI i ∧ n.keys[i]? = some k ∧ e = .returned (.tuple #[ndV true pa i ca pa2 i ca2 none 0 0, ndV true pb (nk - i) cb pb2 (nk - i) cb2 none 0 0, .string (B k)]) ∧
      NdAt w' true pa ca pa2 ca2 none 0 ⟨true, n.keys.take i, n.vals.take i, []⟩ ∧ NdAt w' true pb cb pb2 cb2 none 0 ⟨true, n.keys.drop i, n.vals.drop i, []⟩ ∧ Below w.heap.size w w' ∧ (∀ g, Value.ownBlock (.slice pb (nk - i) cb) = some g → w.heap.size ≤ g) ∧ (∀ g, Value.ownBlock (.slice pb2 (nk - i) cb2) = some g → w.heap.size ≤ g) := by
  have HK := hid h.keys
  have HV := hid h.vals
  rw [hnk] at HK
  rw [hnv] at HV
  have HNK := hid hnk
  have HNV := hid hnv
  have HPI := hid hPI
  have HCUT := hid hcut
  clear h hnk hnv hPI hcut
  unfold ndV at HCUT ⊢
  go_enter Try.func89, Try.ntmps89
  go_wp2_with fail
  obtain ⟨b2, hb2⟩ : ∃ b, w.heap.size = b := ⟨_, rfl⟩
  obtain ⟨w1, hw1⟩ : ∃ x, w.alloc (.cells #[.bool true, .slice pk nk ck, .slice pv nk cv, .slice pd nc cd] 59) = x := ⟨_, rfl⟩
  obtain ⟨w2, hw2⟩ : ∃ x, w1.alloc (.cells #[.bool false, .slice none 0 0, .slice none 0 0, .slice none 0 0] 59) = x := ⟨_, rfl⟩
  obtain ⟨w3, hw3⟩ : ∃ x, w2.alloc (.cells #[.bool false, .slice none 0 0, .slice none 0 0, .slice none 0 0] 59) = x := ⟨_, rfl⟩
  have s1 : w1.heap.size = b2 + 1 := by rw [← hw1, ← hb2]; simp
  have s2 : w2.heap.size = b2 + 2 := by rw [← hw2]; simp [s1]
  have s3 : w3.heap.size = b2 + 3 := by rw [← hw3]; simp [s2]
  have g1 : Below b2 w w1 := by rw [← hw1]; exact (Below.refl _ _).alloc (by omega) _
  have g2 : Below w1.heap.size w1 w2 := by rw [← hw2]; exact (Below.refl _ _).alloc (Nat.le_refl _) _
  have g3 : Below w2.heap.size w2 w3 := by rw [← hw3]; exact (Below.refl _ _).alloc (Nat.le_refl _) _
  have t2 : Blk w1 b2 [.bool true, .slice pk nk ck, .slice pv nk cv, .slice pd nc cd] TN := by rw [← hw1, ← hb2]; exact heap_alloc_new _ _
  have t4 : Blk w2 (b2 + 1) [.bool false, .slice none 0 0, .slice none 0 0, .slice none 0 0] TN := by rw [← hw2, ← s1]; exact heap_alloc_new _ _
  have t5 : Blk w3 (b2 + 2) [.bool false, .slice none 0 0, .slice none 0 0, .slice none 0 0] TN := by rw [← hw3, ← s2]; exact heap_alloc_new _ _
  rw [hw1, hw2, hw3]
  rw [hb2]
  have HT2 := hid ((t2.chg (Chg.new g2 NoFp) (fun h => h)).chg (Chg.new g3 NoFp) (fun h => h))
  have HT4 := hid (t4.chg (Chg.new g3 NoFp) (fun h => h))
  have HT5 := hid t5
  have HBW := hid ((g1.trans (g2.mono (by omega))).trans (g3.mono (by omega)))
  have hsw : b2 + 3 ≤ w3.heap.size := by omega
  clear t2 t4 t5 g1 g2 g3 s1 s2 s3 hw1 hw2 hw3
  have hb3 : Below w.heap.size w w3 := by rw [hb2]; exact HBW.out
  refine (HCUT.out w3 hb3).mono ?_
  rintro e4 w4 ⟨i, rfl, hpi, hb4⟩
  obtain ⟨hi1, hi2⟩ := HPI.out i hpi
  have HPX := hid hpi
  have HLT : Hid ((∀ g, Value.ownBlock (.slice pk nk ck) = some g → g < b2) ∧ (∀ g, Value.ownBlock (.slice pv nk cv) = some g → g < b2)) := hid (by rw [← hb2]; exact ⟨HK.out.lt (by omega) (by decide), HV.out.lt (by omega) (by decide)⟩)
  have HKw := hid (HK.out.new hb3)
  have HVw := hid (HV.out.new hb3)
  have HB2 := hid hb2
  have hs4 := hb4.size
  clear hpi hb3

  have HT2c := hid (HT2.out.chg (Chg.new hb4 NoFp) (fun h => h))
  have HT4c := hid (HT4.out.chg (Chg.new hb4 NoFp) (fun h => h))
  have HT5c := hid (HT5.out.chg (Chg.new hb4 NoFp) (fun h => h))
  have HBWc := hid (HBW.out.trans (hb4.mono (by omega)))
  have HKc := hid (HKw.out.new hb4)
  have HVc := hid (HVw.out.new hb4)
  clear hb4
  obtain ⟨x0, x1, x2, x3, _, _, _, _⟩ := four_cells HT2c.out
  go_wp2_with fail
  clear x0 x1 x2 x3
  obtain ⟨za, hza⟩ : ∃ x, w4.drew = x := ⟨_, rfl⟩
  have hbza : Below w4.heap.size w4 za := by rw [← hza]; exact below_drewN (Below.refl _ _) 1
  have hsza := hbza.size
  have HT2za := hid (HT2c.out.chg (Chg.new hbza NoFp) (fun h => h))
  have HT4za := hid (HT4c.out.chg (Chg.new hbza NoFp) (fun h => h))
  have HT5za := hid (HT5c.out.chg (Chg.new hbza NoFp) (fun h => h))
  have HBWza := hid (HBWc.out.trans (hbza.mono (by omega)))
  have HKza := hid (HKc.out.new hbza)
  have HVza := hid (HVc.out.new hbza)
  clear hbza
  refine wp_region_plan3 (fun w' => Blk w' b2 [.bool true, .slice pk nk ck, .slice pv nk cv, .slice pd nc cd] TN) (fun j => !([4, 9, 11].contains j)) (fun j => [1, 6].contains j) (fun _ => false)
    (.cons 0 (.cons 1 (.cons 2 (.cons 3 (.cons 5 (.cons 6 (.cons 7 (.cons 8 (.cons 4 (.cons 9 (.cons 10 (.cons 11 .nil)))))))))))) (by kernel_rfl) (by kernel_rfl) rfl (by kernel_rfl) (by kernel_rfl) (by rw [hza]; exact HT2za.out) ?_
  (apply wpPlan3_val; (case ho => rfl); (case hst => rfl); (case hw => rfl); (case hv => intro w' hS; (try (have hS := hS rfl; obtain ⟨x0, x1, x2, x3, _, _, _, _⟩ := four_cells hS)); go_simp; first | done | rfl); intro K hK; go_simp; refine hK _ ?_; clear hK K)
  (apply wpPlan3_val; (case ho => rfl); (case hst => rfl); (case hw => rfl); (case hv => intro w' hS; (try (have hS := hS rfl; obtain ⟨x0, x1, x2, x3, _, _, _, _⟩ := four_cells hS)); go_simp; first | done | rfl); intro K hK; go_simp; refine hK _ ?_; clear hK K)
  (apply wpPlan3_val; (case ho => rfl); (case hst => rfl); (case hw => rfl); (case hv => intro w' hS; (try (have hS := hS rfl; obtain ⟨x0, x1, x2, x3, _, _, _, _⟩ := four_cells hS)); go_simp; first | done | rfl); intro K hK; go_simp; refine hK _ ?_; clear hK K)
  refine wpPlan3_slice rfl rfl rfl _ _ _ _ rfl TSt 1 Try.underlying33 (by kernel_rfl) _ _ _ rfl HKza.out.caps.1 HKza.out.caps.2 0 i i (by omega) rfl ⟨_, (i : Int), rfl, by omega, by omega⟩ (by omega) (by omega) ?_
  intro paa caa hsaa K hK
  go_simp
  refine hK _ ?_
  clear hK K
  have HSaa := hid hsaa
  clear hsaa
  (apply wpPlan3_val; (case ho => rfl); (case hst => rfl); (case hw => rfl); (case hv => intro w' hS; (try (have hS := hS rfl; obtain ⟨x0, x1, x2, x3, _, _, _, _⟩ := four_cells hS)); go_simp; first | done | rfl); intro K hK; go_simp; refine hK _ ?_; clear hK K)
  (apply wpPlan3_val; (case ho => rfl); (case hst => rfl); (case hw => rfl); (case hv => intro w' hS; (try (have hS := hS rfl; obtain ⟨x0, x1, x2, x3, _, _, _, _⟩ := four_cells hS)); go_simp; first | done | rfl); intro K hK; go_simp; refine hK _ ?_; clear hK K)
  (apply wpPlan3_val; (case ho => rfl); (case hst => rfl); (case hw => rfl); (case hv => intro w' hS; (try (have hS := hS rfl; obtain ⟨x0, x1, x2, x3, _, _, _, _⟩ := four_cells hS)); go_simp; first | done | rfl); intro K hK; go_simp; refine hK _ ?_; clear hK K)
  refine wpPlan3_slice rfl rfl rfl _ _ _ _ rfl TSt 1 Try.underlying33 (by kernel_rfl) _ _ _ rfl HVza.out.caps.1 HVza.out.caps.2 0 i i (by omega) rfl ⟨_, (i : Int), rfl, by omega, by omega⟩ (by omega) (by omega) ?_
  intro pba cba hsba K hK
  go_simp
  refine hK _ ?_
  clear hK K
  have HSba := hid hsba
  clear hsba
  rw [hza]
  clear hza
  refine wpPlan3_list rfl rfl rfl (fun K hK => ?_)
  refine wpList_step (fun K2 hK2 => ?_)
  go_simp
  refine (clone_str _ _ _ _ za (HSaa.out _ _ HKza.out) (by rw [tv_to _ _]; exact tv_one _) (by omega)).mono ?_
  rintro e1a w1a ⟨p1a, c1a, rfl, ho1a, hb1a⟩
  go_simp
  refine hK2 _ _ ?_
  clear hK2 K2
  simp only [wpList]
  have HO1a := hid (Rd.of_own ho1a)
  have hz1a := hb1a.size
  have HGO1a : Hid (∀ g, Value.ownBlock _ = some g → b2 + 3 ≤ g) := hid (fun g hg => by have := (own_lt ho1a g hg).1; omega)
  clear ho1a
  rw [tv_to _ _] at HO1a
  have HT21a := hid (HT2za.out.chg (Chg.new hb1a NoFp) (fun h => h))
  have HT41a := hid (HT4za.out.chg (Chg.new hb1a NoFp) (fun h => h))
  have HT51a := hid (HT5za.out.chg (Chg.new hb1a NoFp) (fun h => h))
  have HBW1a := hid (HBWza.out.trans (hb1a.mono (by omega)))
  have HK1a := hid (HKza.out.new hb1a)
  have HV1a := hid (HVza.out.new hb1a)
  clear hb1a
  refine hK _ _ (fun _ => HT21a.out) ?_
  clear hK K
  refine wpPlan3_list rfl rfl rfl (fun K hK => ?_)
  refine wpList_step (fun K2 hK2 => ?_)
  go_simp
  refine (clone_str _ _ _ _ w1a (HSba.out _ _ HV1a.out) (by rw [tv_to _ _]; exact tv_one _) (by omega)).mono ?_
  rintro e2a w2a ⟨p2a, c2a, rfl, ho2a, hb2a⟩
  go_simp
  refine hK2 _ _ ?_
  clear hK2 K2
  simp only [wpList]
  have HO2a := hid (Rd.of_own ho2a)
  have hz2a := hb2a.size
  have HGO2a : Hid (∀ g, Value.ownBlock _ = some g → b2 + 3 ≤ g) := hid (fun g hg => by have := (own_lt ho2a g hg).1; omega)
  clear ho2a
  rw [tv_to _ _] at HO2a
  have HT22a := hid (HT21a.out.chg (Chg.new hb2a NoFp) (fun h => h))
  have HT42a := hid (HT41a.out.chg (Chg.new hb2a NoFp) (fun h => h))
  have HT52a := hid (HT51a.out.chg (Chg.new hb2a NoFp) (fun h => h))
  have HBW2a := hid (HBW1a.out.trans (hb2a.mono (by omega)))
  have HK2a := hid (HK1a.out.new hb2a)
  have HV2a := hid (HV1a.out.new hb2a)
  have HAa2a := hid (HO1a.out.new hb2a)
  clear hb2a
  refine hK _ _ (fun _ => HT22a.out) ?_
  clear hK K
  (apply wpPlan3_val; (case ho => rfl); (case hst => rfl); (case hw => rfl); (case hv => intro w' hS; (try (have hS := hS rfl; obtain ⟨x0, x1, x2, x3, _, _, _, _⟩ := four_cells hS)); go_simp; first | done | rfl); intro K hK; go_simp; refine hK _ ?_; clear hK K)
  obtain ⟨_, _, _, _, f0, f1, f2, f3⟩ := four_cells HT42a.out
  refine wpPlan3_list rfl rfl rfl (fun K hK => ?_)
  refine wpList_step (fun K2 hK2 => ?_)
  go_simp
  refine hK2 _ _ ?_
  clear hK2 K2
  simp only [wpList]
  have hfina := nset4 HT42a.out (.bool true) (.slice p1a i c1a) (.slice p2a i c2a) (.slice none 0 0)
  have hcha := nchg4 (w := w2a) (g := (b2 + 1)) (.bool true) (.slice p1a i c1a) (.slice p2a i c2a) (.slice none 0 0)
  obtain ⟨sa, hsa⟩ : ∃ x, (((w2a.setCell ⟨(b2 + 1), 0, none⟩ (.bool true)).setCell ⟨(b2 + 1), 1, none⟩ (.slice p1a i c1a)).setCell ⟨(b2 + 1), 2, none⟩ (.slice p2a i c2a)).setCell ⟨(b2 + 1), 3, none⟩ (.slice none 0 0) = x := ⟨_, rfl⟩
  rw [hsa] at hfina hcha ⊢
  clear hsa f0 f1 f2 f3
  have HT2sa := hid (HT22a.out.chg hcha (by omega))
  have HT4sa := hid hfina
  have HT5sa := hid (HT52a.out.chg hcha (by omega))
  have HBWsa := hid (HBW2a.out.trans (hcha.below (B := b2) (by omega) (by omega)))
  have HKsa := hid (rd_off HK2a.out hcha (fun g hg => by have := HLT.out.1 g hg; omega))
  have HVsa := hid (rd_off HV2a.out hcha (fun g hg => by have := HLT.out.2 g hg; omega))
  have HAasa := hid (rd_off HAa2a.out hcha (fun g hg => by have := HGO1a.out g hg; omega))
  have HBasa := hid (rd_off HO2a.out hcha (fun g hg => by have := HGO2a.out g hg; omega))
  have hssa := hcha.size
  clear hfina hcha
  refine hK _ _ (fun _ => HT2sa.out) ?_
  clear hK K
  refine wpPlan3_nil ?_
  simp only [Qn]
  go_wp2_with fail
  obtain ⟨zb, hzb⟩ : ∃ x, sa.drew = x := ⟨_, rfl⟩
  have hbzb : Below sa.heap.size sa zb := by rw [← hzb]; exact below_drewN (Below.refl _ _) 1
  have hszb := hbzb.size
  have HT2zb := hid (HT2sa.out.chg (Chg.new hbzb NoFp) (fun h => h))
  have HT4zb := hid (HT4sa.out.chg (Chg.new hbzb NoFp) (fun h => h))
  have HT5zb := hid (HT5sa.out.chg (Chg.new hbzb NoFp) (fun h => h))
  have HBWzb := hid (HBWsa.out.trans (hbzb.mono (by omega)))
  have HKzb := hid (HKsa.out.new hbzb)
  have HVzb := hid (HVsa.out.new hbzb)
  have HAazb := hid (HAasa.out.new hbzb)
  have HBazb := hid (HBasa.out.new hbzb)
  clear hbzb
  refine wp_region_plan3 (fun w' => Blk w' b2 [.bool true, .slice pk nk ck, .slice pv nk cv, .slice pd nc cd] TN) (fun j => !([4, 9, 11].contains j)) (fun j => [1, 6].contains j) (fun _ => false)
    (.cons 0 (.cons 1 (.cons 2 (.cons 3 (.cons 5 (.cons 6 (.cons 7 (.cons 8 (.cons 4 (.cons 9 (.cons 10 (.cons 11 .nil)))))))))))) (by kernel_rfl) (by kernel_rfl) rfl (by kernel_rfl) (by kernel_rfl) (by rw [hzb]; exact HT2zb.out) ?_
  (apply wpPlan3_val; (case ho => rfl); (case hst => rfl); (case hw => rfl); (case hv => intro w' hS; (try (have hS := hS rfl; obtain ⟨x0, x1, x2, x3, _, _, _, _⟩ := four_cells hS)); go_simp; first | done | rfl); intro K hK; go_simp; refine hK _ ?_; clear hK K)
  (apply wpPlan3_val; (case ho => rfl); (case hst => rfl); (case hw => rfl); (case hv => intro w' hS; (try (have hS := hS rfl; obtain ⟨x0, x1, x2, x3, _, _, _, _⟩ := four_cells hS)); go_simp; first | done | rfl); intro K hK; go_simp; refine hK _ ?_; clear hK K)
  (apply wpPlan3_val; (case ho => rfl); (case hst => rfl); (case hw => rfl); (case hv => intro w' hS; (try (have hS := hS rfl; obtain ⟨x0, x1, x2, x3, _, _, _, _⟩ := four_cells hS)); go_simp; first | done | rfl); intro K hK; go_simp; refine hK _ ?_; clear hK K)
  refine wpPlan3_slice rfl rfl rfl _ _ _ _ rfl TSt 1 Try.underlying33 (by kernel_rfl) _ _ _ rfl HKzb.out.caps.1 HKzb.out.caps.2 i nk (nk - i) (by omega) ⟨_, (i : Int), rfl, by omega, by omega⟩ rfl (by omega) (by omega) ?_
  intro pab cab hsab K hK
  go_simp
  refine hK _ ?_
  clear hK K
  have HSab := hid hsab
  clear hsab
  (apply wpPlan3_val; (case ho => rfl); (case hst => rfl); (case hw => rfl); (case hv => intro w' hS; (try (have hS := hS rfl; obtain ⟨x0, x1, x2, x3, _, _, _, _⟩ := four_cells hS)); go_simp; first | done | rfl); intro K hK; go_simp; refine hK _ ?_; clear hK K)
  (apply wpPlan3_val; (case ho => rfl); (case hst => rfl); (case hw => rfl); (case hv => intro w' hS; (try (have hS := hS rfl; obtain ⟨x0, x1, x2, x3, _, _, _, _⟩ := four_cells hS)); go_simp; first | done | rfl); intro K hK; go_simp; refine hK _ ?_; clear hK K)
  (apply wpPlan3_val; (case ho => rfl); (case hst => rfl); (case hw => rfl); (case hv => intro w' hS; (try (have hS := hS rfl; obtain ⟨x0, x1, x2, x3, _, _, _, _⟩ := four_cells hS)); go_simp; first | done | rfl); intro K hK; go_simp; refine hK _ ?_; clear hK K)
  refine wpPlan3_slice rfl rfl rfl _ _ _ _ rfl TSt 1 Try.underlying33 (by kernel_rfl) _ _ _ rfl HVzb.out.caps.1 HVzb.out.caps.2 i nk (nk - i) (by omega) ⟨_, (i : Int), rfl, by omega, by omega⟩ rfl (by omega) (by omega) ?_
  intro pbb cbb hsbb K hK
  go_simp
  refine hK _ ?_
  clear hK K
  have HSbb := hid hsbb
  clear hsbb
  rw [hzb]
  clear hzb
  refine wpPlan3_list rfl rfl rfl (fun K hK => ?_)
  refine wpList_step (fun K2 hK2 => ?_)
  go_simp
  refine (clone_str _ _ _ _ zb (HSab.out _ _ HKzb.out) (by rw [tv_from _ (m := (nk - i)) (by rw [HNK.out]; omega)]; exact tv_one _) (by omega)).mono ?_
  rintro e1b w1b ⟨p1b, c1b, rfl, ho1b, hb1b⟩
  go_simp
  refine hK2 _ _ ?_
  clear hK2 K2
  simp only [wpList]
  have HO1b := hid (Rd.of_own ho1b)
  have hz1b := hb1b.size
  have HGO1b : Hid (∀ g, Value.ownBlock _ = some g → b2 + 3 ≤ g) := hid (fun g hg => by have := (own_lt ho1b g hg).1; omega)
  clear ho1b
  rw [tv_from _ (m := (nk - i)) (by rw [HNK.out]; omega)] at HO1b
  have HT21b := hid (HT2zb.out.chg (Chg.new hb1b NoFp) (fun h => h))
  have HT41b := hid (HT4zb.out.chg (Chg.new hb1b NoFp) (fun h => h))
  have HT51b := hid (HT5zb.out.chg (Chg.new hb1b NoFp) (fun h => h))
  have HBW1b := hid (HBWzb.out.trans (hb1b.mono (by omega)))
  have HK1b := hid (HKzb.out.new hb1b)
  have HV1b := hid (HVzb.out.new hb1b)
  have HAa1b := hid (HAazb.out.new hb1b)
  have HBa1b := hid (HBazb.out.new hb1b)
  clear hb1b
  refine hK _ _ (fun _ => HT21b.out) ?_
  clear hK K
  refine wpPlan3_list rfl rfl rfl (fun K hK => ?_)
  refine wpList_step (fun K2 hK2 => ?_)
  go_simp
  refine (clone_str _ _ _ _ w1b (HSbb.out _ _ HV1b.out) (by rw [tv_from _ (m := (nk - i)) (by rw [HNV.out]; omega)]; exact tv_one _) (by omega)).mono ?_
  rintro e2b w2b ⟨p2b, c2b, rfl, ho2b, hb2b⟩
  go_simp
  refine hK2 _ _ ?_
  clear hK2 K2
  simp only [wpList]
  have HO2b := hid (Rd.of_own ho2b)
  have hz2b := hb2b.size
  have HGO2b : Hid (∀ g, Value.ownBlock _ = some g → b2 + 3 ≤ g) := hid (fun g hg => by have := (own_lt ho2b g hg).1; omega)
  clear ho2b
  rw [tv_from _ (m := (nk - i)) (by rw [HNV.out]; omega)] at HO2b
  have HT22b := hid (HT21b.out.chg (Chg.new hb2b NoFp) (fun h => h))
  have HT42b := hid (HT41b.out.chg (Chg.new hb2b NoFp) (fun h => h))
  have HT52b := hid (HT51b.out.chg (Chg.new hb2b NoFp) (fun h => h))
  have HBW2b := hid (HBW1b.out.trans (hb2b.mono (by omega)))
  have HK2b := hid (HK1b.out.new hb2b)
  have HV2b := hid (HV1b.out.new hb2b)
  have HAa2b := hid (HAa1b.out.new hb2b)
  have HBa2b := hid (HBa1b.out.new hb2b)
  have HAb2b := hid (HO1b.out.new hb2b)
  clear hb2b
  refine hK _ _ (fun _ => HT22b.out) ?_
  clear hK K
  (apply wpPlan3_val; (case ho => rfl); (case hst => rfl); (case hw => rfl); (case hv => intro w' hS; (try (have hS := hS rfl; obtain ⟨x0, x1, x2, x3, _, _, _, _⟩ := four_cells hS)); go_simp; first | done | rfl); intro K hK; go_simp; refine hK _ ?_; clear hK K)
  obtain ⟨_, _, _, _, f0, f1, f2, f3⟩ := four_cells HT52b.out
  refine wpPlan3_list rfl rfl rfl (fun K hK => ?_)
  refine wpList_step (fun K2 hK2 => ?_)
  go_simp
  refine hK2 _ _ ?_
  clear hK2 K2
  simp only [wpList]
  have hfinb := nset4 HT52b.out (.bool true) (.slice p1b (nk - i) c1b) (.slice p2b (nk - i) c2b) (.slice none 0 0)
  have hchb := nchg4 (w := w2b) (g := (b2 + 2)) (.bool true) (.slice p1b (nk - i) c1b) (.slice p2b (nk - i) c2b) (.slice none 0 0)
  obtain ⟨sb, hsb⟩ : ∃ x, (((w2b.setCell ⟨(b2 + 2), 0, none⟩ (.bool true)).setCell ⟨(b2 + 2), 1, none⟩ (.slice p1b (nk - i) c1b)).setCell ⟨(b2 + 2), 2, none⟩ (.slice p2b (nk - i) c2b)).setCell ⟨(b2 + 2), 3, none⟩ (.slice none 0 0) = x := ⟨_, rfl⟩
  rw [hsb] at hfinb hchb ⊢
  clear hsb f0 f1 f2 f3
  have HT2sb := hid (HT22b.out.chg hchb (by omega))
  have HT4sb := hid (HT42b.out.chg hchb (by omega))
  have HT5sb := hid hfinb
  have HBWsb := hid (HBW2b.out.trans (hchb.below (B := b2) (by omega) (by omega)))
  have HKsb := hid (rd_off HK2b.out hchb (fun g hg => by have := HLT.out.1 g hg; omega))
  have HVsb := hid (rd_off HV2b.out hchb (fun g hg => by have := HLT.out.2 g hg; omega))
  have HAasb := hid (rd_off HAa2b.out hchb (fun g hg => by have := HGO1a.out g hg; omega))
  have HBasb := hid (rd_off HBa2b.out hchb (fun g hg => by have := HGO2a.out g hg; omega))
  have HAbsb := hid (rd_off HAb2b.out hchb (fun g hg => by have := HGO1b.out g hg; omega))
  have HBbsb := hid (rd_off HO2b.out hchb (fun g hg => by have := HGO2b.out g hg; omega))
  have hssb := hchb.size
  clear hfinb hchb
  refine hK _ _ (fun _ => HT2sb.out) ?_
  clear hK K
  refine wpPlan3_nil ?_
  simp only [Qn]
  go_wp2_with fail
  obtain ⟨zz, hzz⟩ : ∃ x, sb.drew = x := ⟨_, rfl⟩
  have hbzz : Below sb.heap.size sb zz := by rw [← hzz]; exact below_drewN (Below.refl _ _) 1
  have hszz := hbzz.size
  have HT2zz := hid (HT2sb.out.chg (Chg.new hbzz NoFp) (fun h => h))
  have HT4zz := hid (HT4sb.out.chg (Chg.new hbzz NoFp) (fun h => h))
  have HT5zz := hid (HT5sb.out.chg (Chg.new hbzz NoFp) (fun h => h))
  have HBWzz := hid (HBWsb.out.trans (hbzz.mono (by omega)))
  have HKzz := hid (HKsb.out.new hbzz)
  have HVzz := hid (HVsb.out.new hbzz)
  have HAazz := hid (HAasb.out.new hbzz)
  have HBazz := hid (HBasb.out.new hbzz)
  have HAbzz := hid (HAbsb.out.new hbzz)
  have HBbzz := hid (HBbsb.out.new hbzz)
  clear hbzz
  obtain ⟨k, hk⟩ : ∃ k, n.keys[i]? = some k := ⟨_, List.getElem?_eq_getElem (by rw [HNK.out]; exact hi2)⟩
  obtain ⟨gk, ok, rfl, hck⟩ := HAbzz.out.addr (by omega)
  have hkc : zz.cell? ⟨gk, ok, none⟩ = some (.string (B k)) := hck 0 _ (tv_get (by rw [List.getElem?_drop]; exact hk))
  have hgk := HGO1b.out gk rfl
  have hnp : 0 < nk - i := by omega
  have HSZ : Hid (Blk zz (b2 + 1) [.bool true, .slice p1a i c1a, .slice p2a i c2a, .slice none 0 0] TN ∧ Blk zz (b2 + 2) [.bool true, .slice (some ⟨gk, ok, none⟩) (nk - i) c1b, .slice p2b (nk - i) c2b, .slice none 0 0] TN ∧ zz.cell? ⟨gk, ok, none⟩ = some (.string (B k))) := hid ⟨HT4zz.out, HT5zz.out, hkc⟩
  refine wp_region_plan3 (fun w' => Blk w' (b2 + 1) [.bool true, .slice p1a i c1a, .slice p2a i c2a, .slice none 0 0] TN ∧ Blk w' (b2 + 2) [.bool true, .slice (some ⟨gk, ok, none⟩) (nk - i) c1b, .slice p2b (nk - i) c2b, .slice none 0 0] TN ∧ w'.cell? ⟨gk, ok, none⟩ = some (.string (B k))) (fun j => !([6, 7].contains j)) (fun j => [0, 1, 3, 5].contains j) (fun _ => false)
    (.cons 0 (.cons 1 (.cons 2 (.cons 3 (.cons 4 (.cons 5 (.cons 6 (.cons 7 (.cons 8 .nil))))))))) (by kernel_rfl) (by kernel_rfl) rfl (by kernel_rfl) (by kernel_rfl) (by rw [hzz]; exact HSZ.out) ?_
  iterate 6 (apply wpPlan3_val; (case ho => rfl); (case hst => rfl); (case hw => rfl); (case hv => intro w' hS; (try (have hS := hS rfl; obtain ⟨x0, x1, x2, x3, _, _, _, _⟩ := four_cells hS.1; obtain ⟨y0, y1, y2, y3, _, _, _, _⟩ := four_cells hS.2.1; have hS3 := hS.2.2)); go_simp; first | done | rfl); intro K hK; go_simp; refine hK _ ?_; clear hK K)
  rw [hzz]
  clear hzz
  obtain ⟨_, _, _, _, f0, f1, f2, f3⟩ := four_cells HT4zz.out
  refine wpPlan3_list rfl rfl rfl (fun K hK => ?_)
  refine wpList_step (fun K2 hK2 => ?_)
  go_simp
  refine hK2 _ _ ?_
  clear hK2 K2
  simp only [wpList]
  have hfiny1 := nset4 HT4zz.out (.bool true) (.slice p1a i c1a) (.slice p2a i c2a) (.slice none 0 0)
  have hchy1 := nchg4 (w := zz) (g := (b2 + 1)) (.bool true) (.slice p1a i c1a) (.slice p2a i c2a) (.slice none 0 0)
  obtain ⟨sy1, hsy1⟩ : ∃ x, (((zz.setCell ⟨(b2 + 1), 0, none⟩ (.bool true)).setCell ⟨(b2 + 1), 1, none⟩ (.slice p1a i c1a)).setCell ⟨(b2 + 1), 2, none⟩ (.slice p2a i c2a)).setCell ⟨(b2 + 1), 3, none⟩ (.slice none 0 0) = x := ⟨_, rfl⟩
  rw [hsy1] at hfiny1 hchy1 ⊢
  clear hsy1 f0 f1 f2 f3
  have HT2y1 := hid (HT2zz.out.chg hchy1 (by omega))
  have HT4y1 := hid hfiny1
  have HT5y1 := hid (HT5zz.out.chg hchy1 (by omega))
  have HBWy1 := hid (HBWzz.out.trans (hchy1.below (B := b2) (by omega) (by omega)))
  have HKy1 := hid (rd_off HKzz.out hchy1 (fun g hg => by have := HLT.out.1 g hg; omega))
  have HVy1 := hid (rd_off HVzz.out hchy1 (fun g hg => by have := HLT.out.2 g hg; omega))
  have HAay1 := hid (rd_off HAazz.out hchy1 (fun g hg => by have := HGO1a.out g hg; omega))
  have HBay1 := hid (rd_off HBazz.out hchy1 (fun g hg => by have := HGO2a.out g hg; omega))
  have HAby1 := hid (rd_off HAbzz.out hchy1 (fun g hg => by have := HGO1b.out g hg; omega))
  have HBby1 := hid (rd_off HBbzz.out hchy1 (fun g hg => by have := HGO2b.out g hg; omega))
  have hkcy1 : sy1.cell? ⟨gk, ok, none⟩ = some (.string (B k)) := (World.cell?_of_block (w := zz) (a := ⟨gk, ok, none⟩) (hchy1.block gk (World.block_lt_of_cell? _ _ hkc) (by omega))).trans hkc
  have hssy1 := hchy1.size
  clear hfiny1 hchy1 hkc
  have hkc := hkcy1
  clear hkcy1
  refine hK _ _ (fun _ => ⟨HT4y1.out, HT5y1.out, hkc⟩) ?_
  clear hK K
  obtain ⟨_, _, _, _, f0, f1, f2, f3⟩ := four_cells HT5y1.out
  refine wpPlan3_list rfl rfl rfl (fun K hK => ?_)
  refine wpList_step (fun K2 hK2 => ?_)
  go_simp
  refine hK2 _ _ ?_
  clear hK2 K2
  simp only [wpList]
  have hfiny2 := nset4 HT5y1.out (.bool true) (.slice (some ⟨gk, ok, none⟩) (nk - i) c1b) (.slice p2b (nk - i) c2b) (.slice none 0 0)
  have hchy2 := nchg4 (w := sy1) (g := (b2 + 2)) (.bool true) (.slice (some ⟨gk, ok, none⟩) (nk - i) c1b) (.slice p2b (nk - i) c2b) (.slice none 0 0)
  obtain ⟨sy2, hsy2⟩ : ∃ x, (((sy1.setCell ⟨(b2 + 2), 0, none⟩ (.bool true)).setCell ⟨(b2 + 2), 1, none⟩ (.slice (some ⟨gk, ok, none⟩) (nk - i) c1b)).setCell ⟨(b2 + 2), 2, none⟩ (.slice p2b (nk - i) c2b)).setCell ⟨(b2 + 2), 3, none⟩ (.slice none 0 0) = x := ⟨_, rfl⟩
  rw [hsy2] at hfiny2 hchy2 ⊢
  clear hsy2 f0 f1 f2 f3
  have HT2y2 := hid (HT2y1.out.chg hchy2 (by omega))
  have HT4y2 := hid (HT4y1.out.chg hchy2 (by omega))
  have HT5y2 := hid hfiny2
  have HBWy2 := hid (HBWy1.out.trans (hchy2.below (B := b2) (by omega) (by omega)))
  have HKy2 := hid (rd_off HKy1.out hchy2 (fun g hg => by have := HLT.out.1 g hg; omega))
  have HVy2 := hid (rd_off HVy1.out hchy2 (fun g hg => by have := HLT.out.2 g hg; omega))
  have HAay2 := hid (rd_off HAay1.out hchy2 (fun g hg => by have := HGO1a.out g hg; omega))
  have HBay2 := hid (rd_off HBay1.out hchy2 (fun g hg => by have := HGO2a.out g hg; omega))
  have HAby2 := hid (rd_off HAby1.out hchy2 (fun g hg => by have := HGO1b.out g hg; omega))
  have HBby2 := hid (rd_off HBby1.out hchy2 (fun g hg => by have := HGO2b.out g hg; omega))
  have hkcy2 : sy2.cell? ⟨gk, ok, none⟩ = some (.string (B k)) := (World.cell?_of_block (w := sy1) (a := ⟨gk, ok, none⟩) (hchy2.block gk (World.block_lt_of_cell? _ _ hkc) (by omega))).trans hkc
  have hssy2 := hchy2.size
  clear hfiny2 hchy2 hkc
  have hkc := hkcy2
  clear hkcy2
  refine hK _ _ (fun _ => ⟨HT4y2.out, HT5y2.out, hkc⟩) ?_
  clear hK K
  (apply wpPlan3_val; (case ho => rfl); (case hst => rfl); (case hw => rfl); (case hv => intro w' hS; (try (have hS := hS rfl; obtain ⟨x0, x1, x2, x3, _, _, _, _⟩ := four_cells hS.1; obtain ⟨y0, y1, y2, y3, _, _, _, _⟩ := four_cells hS.2.1; have hS3 := hS.2.2)); go_simp; first | done | rfl); intro K hK; go_simp; refine hK _ ?_; clear hK K)
  refine wpPlan3_nil ?_
  simp only [Qn]
  go_wp2_with fail
  refine bodyPost_ret (results_row2_tmp rfl _ _ (b2 + 1) (b2 + 2) TN _ _ (0, 0) (0, 0) _ rfl HT4y2.out rfl HT5y2.out Try.underlying59 rfl (by kernel_rfl) (by kernel_rfl)) rfl ?_
  have hla : (n.keys.take i).length = i := by rw [List.length_take, HNK.out]; omega
  have hlb : (n.vals.take i).length = i := by rw [List.length_take, HNV.out]; omega
  have hma : (n.keys.drop i).length = nk - i := by rw [List.length_drop, HNK.out]
  have hmb : (n.vals.drop i).length = nk - i := by rw [List.length_drop, HNV.out]
  exact ⟨i, k, p1a, c1a, p2a, c2a, some ⟨gk, ok, none⟩, c1b, p2b, c2b, HPX.out, hk, rfl, ⟨rfl, by rw [hla]; exact HAay2.out, by rw [hlb]; exact HBay2.out, Rd.nil _ _⟩, ⟨rfl, by rw [hma]; exact HAby2.out, by rw [hmb]; exact HBby2.out, Rd.nil _ _⟩, by rw [HB2.out]; exact HBWy2.out, fun g hg => by have := HGO1b.out g hg; have := HB2.out; omega, fun g hg => by have := HGO2b.out g hg; have := HB2.out; omega⟩
set_option maxRecDepth 100000 in
set_option maxHeartbeats 8000000 in
theorem halves_inner (w : World) (n : Nd) (pk : Option Addr) (nk ck : Nat) (pv : Option Addr) (nv cv : Nat) (pd : Option Addr) (nc cd : Nat) (last : Bool) (PI : Nat → Prop) (h : NdAt w false pk ck pv cv pd cd n) (hnk : n.keys.length = nk) (hnc : n.kids.length = nc) (hnn : nc = nk + 1) (hPI : ∀ i, PI i → 1 ≤ i ∧ i + 1 < nk) (hb : nk ≤ 100000)
    (hcut : ∀ w1, Below w.heap.size w w1 → Calls Try.prog 94 #[ndV false pk nk ck pv nv cv pd nc cd, .bool last] w1 fun e w2 => ∃ i : Nat, e = .returned (.int .i64 (i : Int)) ∧ PI i ∧ Below w1.heap.size w1 w2) :
    Calls Try.prog 89 #[ndV false pk nk ck pv nv cv pd nc cd, .bool last] w fun e w' => ∃ (i : Nat) (k : Tx) (pa : Option Addr) (ca : Nat) (pa2 : Option Addr) (ca2 : Nat) (pb : Option Addr) (cb : Nat) (pb2 : Option Addr) (cb2 : Nat), PI i ∧ n.keys[i]? = some k ∧ e = .returned (.tuple #[ndV false pa i ca none 0 0 pa2 (i + 1) ca2, ndV false pb (nk - (i + 1)) cb none 0 0 pb2 (nc - (i + 1)) cb2, .string (B k)]) ∧
      NdAt w' false pa ca none 0 pa2 ca2 ⟨false, n.keys.take i, [], n.kids.take (i + 1)⟩ ∧ NdAt w' false pb cb none 0 pb2 cb2 ⟨false, n.keys.drop (i + 1), [], n.kids.drop (i + 1)⟩ ∧ Below w.heap.size w w' ∧ (∀ g, Value.ownBlock (.slice pb (nk - (i + 1)) cb) = some g → w.heap.size ≤ g) ∧ (∀ g, Value.ownBlock (.slice pb2 (nc - (i + 1)) cb2) = some g → w.heap.size ≤ g) := by
  have hn1 : nk < nc := by omega
  have hn2 : nc ≤ nk + 1 := by omega
  clear hnn
  have HK := hid h.keys
  have HD := hid h.kids
  rw [hnk] at HK
  rw [hnc] at HD
  have HNK := hid hnk
  have HNC := hid hnc
  have HPI := hid hPI
  have HCUT := hid hcut
  clear h hnk hnc hPI hcut
  unfold ndV at HCUT ⊢
  go_enter Try.func89, Try.ntmps89
  go_wp2_with fail
  obtain ⟨b2, hb2⟩ : ∃ b, w.heap.size = b := ⟨_, rfl⟩
  obtain ⟨w1, hw1⟩ : ∃ x, w.alloc (.cells #[.bool false, .slice pk nk ck, .slice pv nv cv, .slice pd nc cd] 59) = x := ⟨_, rfl⟩
  obtain ⟨w2, hw2⟩ : ∃ x, w1.alloc (.cells #[.bool false, .slice none 0 0, .slice none 0 0, .slice none 0 0] 59) = x := ⟨_, rfl⟩
  obtain ⟨w3, hw3⟩ : ∃ x, w2.alloc (.cells #[.bool false, .slice none 0 0, .slice none 0 0, .slice none 0 0] 59) = x := ⟨_, rfl⟩
  have s1 : w1.heap.size = b2 + 1 := by rw [← hw1, ← hb2]; simp
  have s2 : w2.heap.size = b2 + 2 := by rw [← hw2]; simp [s1]
  have s3 : w3.heap.size = b2 + 3 := by rw [← hw3]; simp [s2]
  have g1 : Below b2 w w1 := by rw [← hw1]; exact (Below.refl _ _).alloc (by omega) _
  have g2 : Below w1.heap.size w1 w2 := by rw [← hw2]; exact (Below.refl _ _).alloc (Nat.le_refl _) _
  have g3 : Below w2.heap.size w2 w3 := by rw [← hw3]; exact (Below.refl _ _).alloc (Nat.le_refl _) _
  have t2 : Blk w1 b2 [.bool false, .slice pk nk ck, .slice pv nv cv, .slice pd nc cd] TN := by rw [← hw1, ← hb2]; exact heap_alloc_new _ _
  have t4 : Blk w2 (b2 + 1) [.bool false, .slice none 0 0, .slice none 0 0, .slice none 0 0] TN := by rw [← hw2, ← s1]; exact heap_alloc_new _ _
  have t5 : Blk w3 (b2 + 2) [.bool false, .slice none 0 0, .slice none 0 0, .slice none 0 0] TN := by rw [← hw3, ← s2]; exact heap_alloc_new _ _
  rw [hw1, hw2, hw3]
  rw [hb2]
  have HT2 := hid ((t2.chg (Chg.new g2 NoFp) (fun h => h)).chg (Chg.new g3 NoFp) (fun h => h))
  have HT4 := hid (t4.chg (Chg.new g3 NoFp) (fun h => h))
  have HT5 := hid t5
  have HBW := hid ((g1.trans (g2.mono (by omega))).trans (g3.mono (by omega)))
  have hsw : b2 + 3 ≤ w3.heap.size := by omega
  clear t2 t4 t5 g1 g2 g3 s1 s2 s3 hw1 hw2 hw3
  have hb3 : Below w.heap.size w w3 := by rw [hb2]; exact HBW.out
  refine (HCUT.out w3 hb3).mono ?_
  rintro e4 w4 ⟨i, rfl, hpi, hb4⟩
  obtain ⟨hi1, hi2⟩ := HPI.out i hpi
  have HPX := hid hpi
  have HLT : Hid ((∀ g, Value.ownBlock (.slice pk nk ck) = some g → g < b2) ∧ (∀ g, Value.ownBlock (.slice pd nc cd) = some g → g < b2)) := hid (by rw [← hb2]; exact ⟨HK.out.lt (by omega) (by decide), HD.out.lt (by omega) (by decide)⟩)
  have HKw := hid (HK.out.new hb3)
  have HDw := hid (HD.out.new hb3)
  have HB2 := hid hb2
  have hs4 := hb4.size
  clear hpi hb3
  have hwi : IntKind.i64.wrap ((i : Int) + 1) = (i : Int) + 1 := IntWalk.i64_in _ ⟨by omega, by omega⟩
  have HT2c := hid (HT2.out.chg (Chg.new hb4 NoFp) (fun h => h))
  have HT4c := hid (HT4.out.chg (Chg.new hb4 NoFp) (fun h => h))
  have HT5c := hid (HT5.out.chg (Chg.new hb4 NoFp) (fun h => h))
  have HBWc := hid (HBW.out.trans (hb4.mono (by omega)))
  have HKc := hid (HKw.out.new hb4)
  have HDc := hid (HDw.out.new hb4)
  clear hb4
  obtain ⟨x0, x1, x2, x3, _, _, _, _⟩ := four_cells HT2c.out
  go_wp2_with fail
  clear x0 x1 x2 x3
  obtain ⟨za, hza⟩ : ∃ x, w4.drew = x := ⟨_, rfl⟩
  have hbza : Below w4.heap.size w4 za := by rw [← hza]; exact below_drewN (Below.refl _ _) 1
  have hsza := hbza.size
  have HT2za := hid (HT2c.out.chg (Chg.new hbza NoFp) (fun h => h))
  have HT4za := hid (HT4c.out.chg (Chg.new hbza NoFp) (fun h => h))
  have HT5za := hid (HT5c.out.chg (Chg.new hbza NoFp) (fun h => h))
  have HBWza := hid (HBWc.out.trans (hbza.mono (by omega)))
  have HKza := hid (HKc.out.new hbza)
  have HDza := hid (HDc.out.new hbza)
  clear hbza
  refine wp_region_plan3 (fun w' => Blk w' b2 [.bool false, .slice pk nk ck, .slice pv nv cv, .slice pd nc cd] TN) (fun j => !([4, 10, 12].contains j)) (fun j => [1, 6].contains j) (fun _ => false)
    (.cons 0 (.cons 1 (.cons 2 (.cons 3 (.cons 5 (.cons 6 (.cons 7 (.cons 8 (.cons 9 (.cons 4 (.cons 10 (.cons 11 (.cons 12 .nil))))))))))))) (by kernel_rfl) (by kernel_rfl) rfl (by kernel_rfl) (by kernel_rfl) (by rw [hza]; exact HT2za.out) ?_
  (apply wpPlan3_val; (case ho => rfl); (case hst => rfl); (case hw => rfl); (case hv => intro w' hS; (try (have hS := hS rfl; obtain ⟨x0, x1, x2, x3, _, _, _, _⟩ := four_cells hS)); go_simp; first | done | rfl); intro K hK; go_simp; refine hK _ ?_; clear hK K)
  (apply wpPlan3_val; (case ho => rfl); (case hst => rfl); (case hw => rfl); (case hv => intro w' hS; (try (have hS := hS rfl; obtain ⟨x0, x1, x2, x3, _, _, _, _⟩ := four_cells hS)); go_simp; first | done | rfl); intro K hK; go_simp; refine hK _ ?_; clear hK K)
  (apply wpPlan3_val; (case ho => rfl); (case hst => rfl); (case hw => rfl); (case hv => intro w' hS; (try (have hS := hS rfl; obtain ⟨x0, x1, x2, x3, _, _, _, _⟩ := four_cells hS)); go_simp; first | done | rfl); intro K hK; go_simp; refine hK _ ?_; clear hK K)
  refine wpPlan3_slice rfl rfl rfl _ _ _ _ rfl TSt 1 Try.underlying33 (by kernel_rfl) _ _ _ rfl HKza.out.caps.1 HKza.out.caps.2 0 i i (by omega) rfl ⟨_, (i : Int), rfl, by omega, by omega⟩ (by omega) (by omega) ?_
  intro paa caa hsaa K hK
  go_simp
  refine hK _ ?_
  clear hK K
  have HSaa := hid hsaa
  clear hsaa
  (apply wpPlan3_val; (case ho => rfl); (case hst => rfl); (case hw => rfl); (case hv => intro w' hS; (try (have hS := hS rfl; obtain ⟨x0, x1, x2, x3, _, _, _, _⟩ := four_cells hS)); go_simp; first | done | rfl); intro K hK; go_simp; refine hK _ ?_; clear hK K)
  (apply wpPlan3_val; (case ho => rfl); (case hst => rfl); (case hw => rfl); (case hv => intro w' hS; (try (have hS := hS rfl; obtain ⟨x0, x1, x2, x3, _, _, _, _⟩ := four_cells hS)); go_simp; first | done | rfl); intro K hK; go_simp; refine hK _ ?_; clear hK K)
  (apply wpPlan3_val; (case ho => rfl); (case hst => rfl); (case hw => rfl); (case hv => intro w' hS; (try (have hS := hS rfl; obtain ⟨x0, x1, x2, x3, _, _, _, _⟩ := four_cells hS)); go_simp; first | done | rfl); intro K hK; go_simp; refine hK _ ?_; clear hK K)
  (apply wpPlan3_val; (case ho => rfl); (case hst => rfl); (case hw => rfl); (case hv => intro w' hS; (try (have hS := hS rfl; obtain ⟨x0, x1, x2, x3, _, _, _, _⟩ := four_cells hS)); go_simp; first | done | rfl); intro K hK; go_simp; refine hK _ ?_; clear hK K)
  refine wpPlan3_slice rfl rfl rfl _ _ _ _ rfl TI 1 Try.underlying44 (by kernel_rfl) _ _ _ rfl HDza.out.caps.1 HDza.out.caps.2 0 (i + 1) (i + 1) (by omega) rfl ⟨_, _, rfl, by first | omega | (rw [hwi]; omega), by first | omega | (rw [hwi]; omega)⟩ (by omega) (by omega) ?_
  intro pba cba hsba K hK
  go_simp
  refine hK _ ?_
  clear hK K
  have HSba := hid hsba
  clear hsba
  rw [hza]
  clear hza
  refine wpPlan3_list rfl rfl rfl (fun K hK => ?_)
  refine wpList_step (fun K2 hK2 => ?_)
  go_simp
  refine (clone_str _ _ _ _ za (HSaa.out _ _ HKza.out) (by rw [tv_to _ _]; exact tv_one _) (by omega)).mono ?_
  rintro e1a w1a ⟨p1a, c1a, rfl, ho1a, hb1a⟩
  go_simp
  refine hK2 _ _ ?_
  clear hK2 K2
  simp only [wpList]
  have HO1a := hid (Rd.of_own ho1a)
  have hz1a := hb1a.size
  have HGO1a : Hid (∀ g, Value.ownBlock _ = some g → b2 + 3 ≤ g) := hid (fun g hg => by have := (own_lt ho1a g hg).1; omega)
  clear ho1a
  rw [tv_to _ _] at HO1a
  have HT21a := hid (HT2za.out.chg (Chg.new hb1a NoFp) (fun h => h))
  have HT41a := hid (HT4za.out.chg (Chg.new hb1a NoFp) (fun h => h))
  have HT51a := hid (HT5za.out.chg (Chg.new hb1a NoFp) (fun h => h))
  have HBW1a := hid (HBWza.out.trans (hb1a.mono (by omega)))
  have HK1a := hid (HKza.out.new hb1a)
  have HD1a := hid (HDza.out.new hb1a)
  clear hb1a
  refine hK _ _ (fun _ => HT21a.out) ?_
  clear hK K
  refine wpPlan3_list rfl rfl rfl (fun K hK => ?_)
  refine wpList_step (fun K2 hK2 => ?_)
  go_simp
  refine (clone_int _ _ _ _ w1a (HSba.out _ _ HD1a.out) (by rw [kv_to _ _]; exact kv_one _) (by omega)).mono ?_
  rintro e2a w2a ⟨p2a, c2a, rfl, ho2a, hb2a⟩
  go_simp
  refine hK2 _ _ ?_
  clear hK2 K2
  simp only [wpList]
  have HO2a := hid (Rd.of_own ho2a)
  have hz2a := hb2a.size
  have HGO2a : Hid (∀ g, Value.ownBlock _ = some g → b2 + 3 ≤ g) := hid (fun g hg => by have := (own_lt ho2a g hg).1; omega)
  clear ho2a
  rw [kv_to _ _] at HO2a
  have HT22a := hid (HT21a.out.chg (Chg.new hb2a NoFp) (fun h => h))
  have HT42a := hid (HT41a.out.chg (Chg.new hb2a NoFp) (fun h => h))
  have HT52a := hid (HT51a.out.chg (Chg.new hb2a NoFp) (fun h => h))
  have HBW2a := hid (HBW1a.out.trans (hb2a.mono (by omega)))
  have HK2a := hid (HK1a.out.new hb2a)
  have HD2a := hid (HD1a.out.new hb2a)
  have HAa2a := hid (HO1a.out.new hb2a)
  clear hb2a
  refine hK _ _ (fun _ => HT22a.out) ?_
  clear hK K
  (apply wpPlan3_val; (case ho => rfl); (case hst => rfl); (case hw => rfl); (case hv => intro w' hS; (try (have hS := hS rfl; obtain ⟨x0, x1, x2, x3, _, _, _, _⟩ := four_cells hS)); go_simp; first | done | rfl); intro K hK; go_simp; refine hK _ ?_; clear hK K)
  obtain ⟨_, _, _, _, f0, f1, f2, f3⟩ := four_cells HT42a.out
  refine wpPlan3_list rfl rfl rfl (fun K hK => ?_)
  refine wpList_step (fun K2 hK2 => ?_)
  go_simp
  refine hK2 _ _ ?_
  clear hK2 K2
  simp only [wpList]
  have hfina := nset4 HT42a.out (.bool false) (.slice p1a i c1a) (.slice none 0 0) (.slice p2a (i + 1) c2a)
  have hcha := nchg4 (w := w2a) (g := (b2 + 1)) (.bool false) (.slice p1a i c1a) (.slice none 0 0) (.slice p2a (i + 1) c2a)
  obtain ⟨sa, hsa⟩ : ∃ x, (((w2a.setCell ⟨(b2 + 1), 0, none⟩ (.bool false)).setCell ⟨(b2 + 1), 1, none⟩ (.slice p1a i c1a)).setCell ⟨(b2 + 1), 2, none⟩ (.slice none 0 0)).setCell ⟨(b2 + 1), 3, none⟩ (.slice p2a (i + 1) c2a) = x := ⟨_, rfl⟩
  rw [hsa] at hfina hcha ⊢
  clear hsa f0 f1 f2 f3
  have HT2sa := hid (HT22a.out.chg hcha (by omega))
  have HT4sa := hid hfina
  have HT5sa := hid (HT52a.out.chg hcha (by omega))
  have HBWsa := hid (HBW2a.out.trans (hcha.below (B := b2) (by omega) (by omega)))
  have HKsa := hid (rd_off HK2a.out hcha (fun g hg => by have := HLT.out.1 g hg; omega))
  have HDsa := hid (rd_off HD2a.out hcha (fun g hg => by have := HLT.out.2 g hg; omega))
  have HAasa := hid (rd_off HAa2a.out hcha (fun g hg => by have := HGO1a.out g hg; omega))
  have HBasa := hid (rd_off HO2a.out hcha (fun g hg => by have := HGO2a.out g hg; omega))
  have hssa := hcha.size
  clear hfina hcha
  refine hK _ _ (fun _ => HT2sa.out) ?_
  clear hK K
  refine wpPlan3_nil ?_
  simp only [Qn]
  go_wp2_with fail
  obtain ⟨zb, hzb⟩ : ∃ x, sa.drew = x := ⟨_, rfl⟩
  have hbzb : Below sa.heap.size sa zb := by rw [← hzb]; exact below_drewN (Below.refl _ _) 1
  have hszb := hbzb.size
  have HT2zb := hid (HT2sa.out.chg (Chg.new hbzb NoFp) (fun h => h))
  have HT4zb := hid (HT4sa.out.chg (Chg.new hbzb NoFp) (fun h => h))
  have HT5zb := hid (HT5sa.out.chg (Chg.new hbzb NoFp) (fun h => h))
  have HBWzb := hid (HBWsa.out.trans (hbzb.mono (by omega)))
  have HKzb := hid (HKsa.out.new hbzb)
  have HDzb := hid (HDsa.out.new hbzb)
  have HAazb := hid (HAasa.out.new hbzb)
  have HBazb := hid (HBasa.out.new hbzb)
  clear hbzb
  refine wp_region_plan3 (fun w' => Blk w' b2 [.bool false, .slice pk nk ck, .slice pv nv cv, .slice pd nc cd] TN) (fun j => !([5, 11, 13].contains j)) (fun j => [1, 7].contains j) (fun _ => false)
    (.cons 0 (.cons 1 (.cons 2 (.cons 3 (.cons 4 (.cons 6 (.cons 7 (.cons 8 (.cons 9 (.cons 10 (.cons 5 (.cons 11 (.cons 12 (.cons 13 .nil)))))))))))))) (by kernel_rfl) (by kernel_rfl) rfl (by kernel_rfl) (by kernel_rfl) (by rw [hzb]; exact HT2zb.out) ?_
  (apply wpPlan3_val; (case ho => rfl); (case hst => rfl); (case hw => rfl); (case hv => intro w' hS; (try (have hS := hS rfl; obtain ⟨x0, x1, x2, x3, _, _, _, _⟩ := four_cells hS)); go_simp; first | done | rfl); intro K hK; go_simp; refine hK _ ?_; clear hK K)
  (apply wpPlan3_val; (case ho => rfl); (case hst => rfl); (case hw => rfl); (case hv => intro w' hS; (try (have hS := hS rfl; obtain ⟨x0, x1, x2, x3, _, _, _, _⟩ := four_cells hS)); go_simp; first | done | rfl); intro K hK; go_simp; refine hK _ ?_; clear hK K)
  (apply wpPlan3_val; (case ho => rfl); (case hst => rfl); (case hw => rfl); (case hv => intro w' hS; (try (have hS := hS rfl; obtain ⟨x0, x1, x2, x3, _, _, _, _⟩ := four_cells hS)); go_simp; first | done | rfl); intro K hK; go_simp; refine hK _ ?_; clear hK K)
  (apply wpPlan3_val; (case ho => rfl); (case hst => rfl); (case hw => rfl); (case hv => intro w' hS; (try (have hS := hS rfl; obtain ⟨x0, x1, x2, x3, _, _, _, _⟩ := four_cells hS)); go_simp; first | done | rfl); intro K hK; go_simp; refine hK _ ?_; clear hK K)
  refine wpPlan3_slice rfl rfl rfl _ _ _ _ rfl TSt 1 Try.underlying33 (by kernel_rfl) _ _ _ rfl HKzb.out.caps.1 HKzb.out.caps.2 (i + 1) nk (nk - (i + 1)) (by omega) ⟨_, _, rfl, by first | omega | (rw [hwi]; omega), by first | omega | (rw [hwi]; omega)⟩ rfl (by omega) (by omega) ?_
  intro pab cab hsab K hK
  go_simp
  refine hK _ ?_
  clear hK K
  have HSab := hid hsab
  clear hsab
  (apply wpPlan3_val; (case ho => rfl); (case hst => rfl); (case hw => rfl); (case hv => intro w' hS; (try (have hS := hS rfl; obtain ⟨x0, x1, x2, x3, _, _, _, _⟩ := four_cells hS)); go_simp; first | done | rfl); intro K hK; go_simp; refine hK _ ?_; clear hK K)
  (apply wpPlan3_val; (case ho => rfl); (case hst => rfl); (case hw => rfl); (case hv => intro w' hS; (try (have hS := hS rfl; obtain ⟨x0, x1, x2, x3, _, _, _, _⟩ := four_cells hS)); go_simp; first | done | rfl); intro K hK; go_simp; refine hK _ ?_; clear hK K)
  (apply wpPlan3_val; (case ho => rfl); (case hst => rfl); (case hw => rfl); (case hv => intro w' hS; (try (have hS := hS rfl; obtain ⟨x0, x1, x2, x3, _, _, _, _⟩ := four_cells hS)); go_simp; first | done | rfl); intro K hK; go_simp; refine hK _ ?_; clear hK K)
  (apply wpPlan3_val; (case ho => rfl); (case hst => rfl); (case hw => rfl); (case hv => intro w' hS; (try (have hS := hS rfl; obtain ⟨x0, x1, x2, x3, _, _, _, _⟩ := four_cells hS)); go_simp; first | done | rfl); intro K hK; go_simp; refine hK _ ?_; clear hK K)
  refine wpPlan3_slice rfl rfl rfl _ _ _ _ rfl TI 1 Try.underlying44 (by kernel_rfl) _ _ _ rfl HDzb.out.caps.1 HDzb.out.caps.2 (i + 1) nc (nc - (i + 1)) (by omega) ⟨_, _, rfl, by first | omega | (rw [hwi]; omega), by first | omega | (rw [hwi]; omega)⟩ rfl (by omega) (by omega) ?_
  intro pbb cbb hsbb K hK
  go_simp
  refine hK _ ?_
  clear hK K
  have HSbb := hid hsbb
  clear hsbb
  rw [hzb]
  clear hzb
  refine wpPlan3_list rfl rfl rfl (fun K hK => ?_)
  refine wpList_step (fun K2 hK2 => ?_)
  go_simp
  refine (clone_str _ _ _ _ zb (HSab.out _ _ HKzb.out) (by rw [tv_from _ (m := (nk - (i + 1))) (by rw [HNK.out]; omega)]; exact tv_one _) (by omega)).mono ?_
  rintro e1b w1b ⟨p1b, c1b, rfl, ho1b, hb1b⟩
  go_simp
  refine hK2 _ _ ?_
  clear hK2 K2
  simp only [wpList]
  have HO1b := hid (Rd.of_own ho1b)
  have hz1b := hb1b.size
  have HGO1b : Hid (∀ g, Value.ownBlock _ = some g → b2 + 3 ≤ g) := hid (fun g hg => by have := (own_lt ho1b g hg).1; omega)
  clear ho1b
  rw [tv_from _ (m := (nk - (i + 1))) (by rw [HNK.out]; omega)] at HO1b
  have HT21b := hid (HT2zb.out.chg (Chg.new hb1b NoFp) (fun h => h))
  have HT41b := hid (HT4zb.out.chg (Chg.new hb1b NoFp) (fun h => h))
  have HT51b := hid (HT5zb.out.chg (Chg.new hb1b NoFp) (fun h => h))
  have HBW1b := hid (HBWzb.out.trans (hb1b.mono (by omega)))
  have HK1b := hid (HKzb.out.new hb1b)
  have HD1b := hid (HDzb.out.new hb1b)
  have HAa1b := hid (HAazb.out.new hb1b)
  have HBa1b := hid (HBazb.out.new hb1b)
  clear hb1b
  refine hK _ _ (fun _ => HT21b.out) ?_
  clear hK K
  refine wpPlan3_list rfl rfl rfl (fun K hK => ?_)
  refine wpList_step (fun K2 hK2 => ?_)
  go_simp
  refine (clone_int _ _ _ _ w1b (HSbb.out _ _ HD1b.out) (by rw [kv_from _ (m := (nc - (i + 1))) (by rw [HNC.out]; omega)]; exact kv_one _) (by omega)).mono ?_
  rintro e2b w2b ⟨p2b, c2b, rfl, ho2b, hb2b⟩
  go_simp
  refine hK2 _ _ ?_
  clear hK2 K2
  simp only [wpList]
  have HO2b := hid (Rd.of_own ho2b)
  have hz2b := hb2b.size
  have HGO2b : Hid (∀ g, Value.ownBlock _ = some g → b2 + 3 ≤ g) := hid (fun g hg => by have := (own_lt ho2b g hg).1; omega)
  clear ho2b
  rw [kv_from _ (m := (nc - (i + 1))) (by rw [HNC.out]; omega)] at HO2b
  have HT22b := hid (HT21b.out.chg (Chg.new hb2b NoFp) (fun h => h))
  have HT42b := hid (HT41b.out.chg (Chg.new hb2b NoFp) (fun h => h))
  have HT52b := hid (HT51b.out.chg (Chg.new hb2b NoFp) (fun h => h))
  have HBW2b := hid (HBW1b.out.trans (hb2b.mono (by omega)))
  have HK2b := hid (HK1b.out.new hb2b)
  have HD2b := hid (HD1b.out.new hb2b)
  have HAa2b := hid (HAa1b.out.new hb2b)
  have HBa2b := hid (HBa1b.out.new hb2b)
  have HAb2b := hid (HO1b.out.new hb2b)
  clear hb2b
  refine hK _ _ (fun _ => HT22b.out) ?_
  clear hK K
  (apply wpPlan3_val; (case ho => rfl); (case hst => rfl); (case hw => rfl); (case hv => intro w' hS; (try (have hS := hS rfl; obtain ⟨x0, x1, x2, x3, _, _, _, _⟩ := four_cells hS)); go_simp; first | done | rfl); intro K hK; go_simp; refine hK _ ?_; clear hK K)
  obtain ⟨_, _, _, _, f0, f1, f2, f3⟩ := four_cells HT52b.out
  refine wpPlan3_list rfl rfl rfl (fun K hK => ?_)
  refine wpList_step (fun K2 hK2 => ?_)
  go_simp
  refine hK2 _ _ ?_
  clear hK2 K2
  simp only [wpList]
  have hfinb := nset4 HT52b.out (.bool false) (.slice p1b (nk - (i + 1)) c1b) (.slice none 0 0) (.slice p2b (nc - (i + 1)) c2b)
  have hchb := nchg4 (w := w2b) (g := (b2 + 2)) (.bool false) (.slice p1b (nk - (i + 1)) c1b) (.slice none 0 0) (.slice p2b (nc - (i + 1)) c2b)
  obtain ⟨sb, hsb⟩ : ∃ x, (((w2b.setCell ⟨(b2 + 2), 0, none⟩ (.bool false)).setCell ⟨(b2 + 2), 1, none⟩ (.slice p1b (nk - (i + 1)) c1b)).setCell ⟨(b2 + 2), 2, none⟩ (.slice none 0 0)).setCell ⟨(b2 + 2), 3, none⟩ (.slice p2b (nc - (i + 1)) c2b) = x := ⟨_, rfl⟩
  rw [hsb] at hfinb hchb ⊢
  clear hsb f0 f1 f2 f3
  have HT2sb := hid (HT22b.out.chg hchb (by omega))
  have HT4sb := hid (HT42b.out.chg hchb (by omega))
  have HT5sb := hid hfinb
  have HBWsb := hid (HBW2b.out.trans (hchb.below (B := b2) (by omega) (by omega)))
  have HKsb := hid (rd_off HK2b.out hchb (fun g hg => by have := HLT.out.1 g hg; omega))
  have HDsb := hid (rd_off HD2b.out hchb (fun g hg => by have := HLT.out.2 g hg; omega))
  have HAasb := hid (rd_off HAa2b.out hchb (fun g hg => by have := HGO1a.out g hg; omega))
  have HBasb := hid (rd_off HBa2b.out hchb (fun g hg => by have := HGO2a.out g hg; omega))
  have HAbsb := hid (rd_off HAb2b.out hchb (fun g hg => by have := HGO1b.out g hg; omega))
  have HBbsb := hid (rd_off HO2b.out hchb (fun g hg => by have := HGO2b.out g hg; omega))
  have hssb := hchb.size
  clear hfinb hchb
  refine hK _ _ (fun _ => HT2sb.out) ?_
  clear hK K
  refine wpPlan3_nil ?_
  simp only [Qn]
  go_wp2_with fail
  obtain ⟨zz, hzz⟩ : ∃ x, sb.drew = x := ⟨_, rfl⟩
  have hbzz : Below sb.heap.size sb zz := by rw [← hzz]; exact below_drewN (Below.refl _ _) 1
  have hszz := hbzz.size
  have HT2zz := hid (HT2sb.out.chg (Chg.new hbzz NoFp) (fun h => h))
  have HT4zz := hid (HT4sb.out.chg (Chg.new hbzz NoFp) (fun h => h))
  have HT5zz := hid (HT5sb.out.chg (Chg.new hbzz NoFp) (fun h => h))
  have HBWzz := hid (HBWsb.out.trans (hbzz.mono (by omega)))
  have HKzz := hid (HKsb.out.new hbzz)
  have HDzz := hid (HDsb.out.new hbzz)
  have HAazz := hid (HAasb.out.new hbzz)
  have HBazz := hid (HBasb.out.new hbzz)
  have HAbzz := hid (HAbsb.out.new hbzz)
  have HBbzz := hid (HBbsb.out.new hbzz)
  clear hbzz
  obtain ⟨k, hk⟩ : ∃ k, n.keys[i]? = some k := ⟨_, List.getElem?_eq_getElem (by rw [HNK.out]; omega)⟩
  obtain ⟨gk, ok, rfl, hck⟩ := HKzz.out.addr (by omega)
  have hkc : zz.cell? ⟨gk, ok + i, none⟩ = some (.string (B k)) := hck i _ (tv_get hk)
  have hgk := HLT.out.1 gk rfl
  have hink : i < nk := by omega
  have HSZ : Hid (Blk zz (b2 + 1) [.bool false, .slice p1a i c1a, .slice none 0 0, .slice p2a (i + 1) c2a] TN ∧ Blk zz (b2 + 2) [.bool false, .slice p1b (nk - (i + 1)) c1b, .slice none 0 0, .slice p2b (nc - (i + 1)) c2b] TN ∧ zz.cell? ⟨gk, ok + i, none⟩ = some (.string (B k)) ∧ Blk zz b2 [.bool false, .slice (some ⟨gk, ok, none⟩) nk ck, .slice pv nv cv, .slice pd nc cd] TN) := hid ⟨HT4zz.out, HT5zz.out, hkc, HT2zz.out⟩
  refine wp_region_plan3 (fun w' => Blk w' (b2 + 1) [.bool false, .slice p1a i c1a, .slice none 0 0, .slice p2a (i + 1) c2a] TN ∧ Blk w' (b2 + 2) [.bool false, .slice p1b (nk - (i + 1)) c1b, .slice none 0 0, .slice p2b (nc - (i + 1)) c2b] TN ∧ w'.cell? ⟨gk, ok + i, none⟩ = some (.string (B k)) ∧ Blk w' b2 [.bool false, .slice (some ⟨gk, ok, none⟩) nk ck, .slice pv nv cv, .slice pd nc cd] TN) (fun j => !([7, 8].contains j)) (fun j => [0, 1, 3, 6].contains j) (fun _ => false)
    (.cons 0 (.cons 1 (.cons 2 (.cons 3 (.cons 4 (.cons 5 (.cons 6 (.cons 7 (.cons 8 (.cons 9 .nil)))))))))) (by kernel_rfl) (by kernel_rfl) rfl (by kernel_rfl) (by kernel_rfl) (by rw [hzz]; exact HSZ.out) ?_
  iterate 7 (apply wpPlan3_val; (case ho => rfl); (case hst => rfl); (case hw => rfl); (case hv => intro w' hS; (try (have hS := hS rfl; obtain ⟨x0, x1, x2, x3, _, _, _, _⟩ := four_cells hS.1; obtain ⟨y0, y1, y2, y3, _, _, _, _⟩ := four_cells hS.2.1; have hS3 := hS.2.2.1; obtain ⟨u0, u1, u2, u3, _, _, _, _⟩ := four_cells hS.2.2.2)); go_simp; first | done | rfl); intro K hK; go_simp; refine hK _ ?_; clear hK K)
  rw [hzz]
  clear hzz
  obtain ⟨_, _, _, _, f0, f1, f2, f3⟩ := four_cells HT4zz.out
  refine wpPlan3_list rfl rfl rfl (fun K hK => ?_)
  refine wpList_step (fun K2 hK2 => ?_)
  go_simp
  refine hK2 _ _ ?_
  clear hK2 K2
  simp only [wpList]
  have hfiny1 := nset4 HT4zz.out (.bool false) (.slice p1a i c1a) (.slice none 0 0) (.slice p2a (i + 1) c2a)
  have hchy1 := nchg4 (w := zz) (g := (b2 + 1)) (.bool false) (.slice p1a i c1a) (.slice none 0 0) (.slice p2a (i + 1) c2a)
  obtain ⟨sy1, hsy1⟩ : ∃ x, (((zz.setCell ⟨(b2 + 1), 0, none⟩ (.bool false)).setCell ⟨(b2 + 1), 1, none⟩ (.slice p1a i c1a)).setCell ⟨(b2 + 1), 2, none⟩ (.slice none 0 0)).setCell ⟨(b2 + 1), 3, none⟩ (.slice p2a (i + 1) c2a) = x := ⟨_, rfl⟩
  rw [hsy1] at hfiny1 hchy1 ⊢
  clear hsy1 f0 f1 f2 f3
  have HT2y1 := hid (HT2zz.out.chg hchy1 (by omega))
  have HT4y1 := hid hfiny1
  have HT5y1 := hid (HT5zz.out.chg hchy1 (by omega))
  have HBWy1 := hid (HBWzz.out.trans (hchy1.below (B := b2) (by omega) (by omega)))
  have HKy1 := hid (rd_off HKzz.out hchy1 (fun g hg => by have := HLT.out.1 g hg; omega))
  have HDy1 := hid (rd_off HDzz.out hchy1 (fun g hg => by have := HLT.out.2 g hg; omega))
  have HAay1 := hid (rd_off HAazz.out hchy1 (fun g hg => by have := HGO1a.out g hg; omega))
  have HBay1 := hid (rd_off HBazz.out hchy1 (fun g hg => by have := HGO2a.out g hg; omega))
  have HAby1 := hid (rd_off HAbzz.out hchy1 (fun g hg => by have := HGO1b.out g hg; omega))
  have HBby1 := hid (rd_off HBbzz.out hchy1 (fun g hg => by have := HGO2b.out g hg; omega))
  have hkcy1 : sy1.cell? ⟨gk, ok + i, none⟩ = some (.string (B k)) := (World.cell?_of_block (w := zz) (a := ⟨gk, ok + i, none⟩) (hchy1.block gk (World.block_lt_of_cell? _ _ hkc) (by omega))).trans hkc
  have hssy1 := hchy1.size
  clear hfiny1 hchy1 hkc
  have hkc := hkcy1
  clear hkcy1
  refine hK _ _ (fun _ => ⟨HT4y1.out, HT5y1.out, hkc, HT2y1.out⟩) ?_
  clear hK K
  obtain ⟨_, _, _, _, f0, f1, f2, f3⟩ := four_cells HT5y1.out
  refine wpPlan3_list rfl rfl rfl (fun K hK => ?_)
  refine wpList_step (fun K2 hK2 => ?_)
  go_simp
  refine hK2 _ _ ?_
  clear hK2 K2
  simp only [wpList]
  have hfiny2 := nset4 HT5y1.out (.bool false) (.slice p1b (nk - (i + 1)) c1b) (.slice none 0 0) (.slice p2b (nc - (i + 1)) c2b)
  have hchy2 := nchg4 (w := sy1) (g := (b2 + 2)) (.bool false) (.slice p1b (nk - (i + 1)) c1b) (.slice none 0 0) (.slice p2b (nc - (i + 1)) c2b)
  obtain ⟨sy2, hsy2⟩ : ∃ x, (((sy1.setCell ⟨(b2 + 2), 0, none⟩ (.bool false)).setCell ⟨(b2 + 2), 1, none⟩ (.slice p1b (nk - (i + 1)) c1b)).setCell ⟨(b2 + 2), 2, none⟩ (.slice none 0 0)).setCell ⟨(b2 + 2), 3, none⟩ (.slice p2b (nc - (i + 1)) c2b) = x := ⟨_, rfl⟩
  rw [hsy2] at hfiny2 hchy2 ⊢
  clear hsy2 f0 f1 f2 f3
  have HT2y2 := hid (HT2y1.out.chg hchy2 (by omega))
  have HT4y2 := hid (HT4y1.out.chg hchy2 (by omega))
  have HT5y2 := hid hfiny2
  have HBWy2 := hid (HBWy1.out.trans (hchy2.below (B := b2) (by omega) (by omega)))
  have HKy2 := hid (rd_off HKy1.out hchy2 (fun g hg => by have := HLT.out.1 g hg; omega))
  have HDy2 := hid (rd_off HDy1.out hchy2 (fun g hg => by have := HLT.out.2 g hg; omega))
  have HAay2 := hid (rd_off HAay1.out hchy2 (fun g hg => by have := HGO1a.out g hg; omega))
  have HBay2 := hid (rd_off HBay1.out hchy2 (fun g hg => by have := HGO2a.out g hg; omega))
  have HAby2 := hid (rd_off HAby1.out hchy2 (fun g hg => by have := HGO1b.out g hg; omega))
  have HBby2 := hid (rd_off HBby1.out hchy2 (fun g hg => by have := HGO2b.out g hg; omega))
  have hkcy2 : sy2.cell? ⟨gk, ok + i, none⟩ = some (.string (B k)) := (World.cell?_of_block (w := sy1) (a := ⟨gk, ok + i, none⟩) (hchy2.block gk (World.block_lt_of_cell? _ _ hkc) (by omega))).trans hkc
  have hssy2 := hchy2.size
  clear hfiny2 hchy2 hkc
  have hkc := hkcy2
  clear hkcy2
  refine hK _ _ (fun _ => ⟨HT4y2.out, HT5y2.out, hkc, HT2y2.out⟩) ?_
  clear hK K
  (apply wpPlan3_val; (case ho => rfl); (case hst => rfl); (case hw => rfl); (case hv => intro w' hS; (try (have hS := hS rfl; obtain ⟨x0, x1, x2, x3, _, _, _, _⟩ := four_cells hS.1; obtain ⟨y0, y1, y2, y3, _, _, _, _⟩ := four_cells hS.2.1; have hS3 := hS.2.2.1; obtain ⟨u0, u1, u2, u3, _, _, _, _⟩ := four_cells hS.2.2.2)); go_simp; first | done | rfl); intro K hK; go_simp; refine hK _ ?_; clear hK K)
  refine wpPlan3_nil ?_
  simp only [Qn]
  go_wp2_with fail
  refine bodyPost_ret (results_row2_tmp rfl _ _ (b2 + 1) (b2 + 2) TN _ _ (0, 0) (0, 0) _ rfl HT4y2.out rfl HT5y2.out Try.underlying59 rfl (by kernel_rfl) (by kernel_rfl)) rfl ?_
  have hla : (n.keys.take i).length = i := by rw [List.length_take, HNK.out]; omega
  have hlb : (n.kids.take (i + 1)).length = i + 1 := by rw [List.length_take, HNC.out]; omega
  have hma : (n.keys.drop (i + 1)).length = nk - (i + 1) := by rw [List.length_drop, HNK.out]
  have hmb : (n.kids.drop (i + 1)).length = nc - (i + 1) := by rw [List.length_drop, HNC.out]
  exact ⟨i, k, p1a, c1a, p2a, c2a, p1b, c1b, p2b, c2b, HPX.out, hk, rfl, ⟨rfl, by rw [hla]; exact HAay2.out, Rd.nil _ _, by rw [hlb]; exact HBay2.out⟩, ⟨rfl, by rw [hma]; exact HAby2.out, Rd.nil _ _, by rw [hmb]; exact HBby2.out⟩, by rw [HB2.out]; exact HBWy2.out, fun g hg => by have := HGO1b.out g hg; have := HB2.out; omega, fun g hg => by have := HGO2b.out g hg; have := HB2.out; omega⟩
end Go.Proofs.Ytdilkgcoecipjaa

namespace Go.Proofs.Ytdilkgcoecipjaa
open Go.RowKit
set_option linter.unusedVariables false

theorem okn_take {keys vals : List Tx} (h : OkN ⟨true, keys, vals, []⟩) (i : Nat) : OkN ⟨true, keys.take i, vals.take i, []⟩ ∧ OkN ⟨true, keys.drop i, vals.drop i, []⟩ := by
  unfold OkN at h ⊢
  simp only [if_true] at h ⊢
  obtain ⟨h1, _, h3⟩ := h
  refine ⟨⟨by simp [h1], trivial, fun e he => h3 e ?_⟩, by simp [h1], trivial, fun e he => h3 e ?_⟩
  · rw [zip_take_] at he; exact List.mem_of_mem_take he
  · rw [zip_drop_] at he; exact List.mem_of_mem_drop he
theorem okn_take_in {keys : List Tx} {kids : List Nat} (h : OkN ⟨false, keys, [], kids⟩) {i : Nat} (hi : i < keys.length) : OkN ⟨false, keys.take i, [], kids.take (i + 1)⟩ ∧ OkN ⟨false, keys.drop (i + 1), [], kids.drop (i + 1)⟩ := by
  unfold OkN at h ⊢
  simp only [Bool.false_eq_true, if_false] at h ⊢
  obtain ⟨_, h1, h2, h3⟩ := h
  exact ⟨⟨trivial, by simp [h1] <;> omega, fun k hk => h2 k (List.mem_of_mem_take hk), fun k hk => h3 k (List.mem_of_mem_take hk)⟩, trivial, by simp [h1] <;> omega, fun k hk => h2 k (List.mem_of_mem_drop hk), fun k hk => h3 k (List.mem_of_mem_drop hk)⟩
theorem costs_le {nd : Nd} (h : OkN nd) : (nd.leaf = true → ∀ x ∈ costs nd, x ≤ 152) ∧ (nd.leaf = false → ∀ x ∈ costs nd, x ≤ 141) := by
  unfold OkN at h
  unfold costs
  constructor
  · intro hl x hx
    rw [if_pos hl] at h hx
    obtain ⟨e, he, rfl⟩ := List.mem_map.1 hx
    have := h.2.2 e he; omega
  · intro hl x hx
    rw [if_neg (by rw [hl]; simp)] at h hx
    obtain ⟨k, hk, rfl⟩ := List.mem_map.1 hx
    have := h.2.2.1 k hk; omega

theorem halves_any (w : World) (nd : Nd) (lf : Bool) (pk : Option Addr) (nk ck : Nat) (pv : Option Addr) (nv cv : Nat) (pd : Option Addr) (nc cd : Nat) (last : Bool) (h : NdAt w lf pk ck pv cv pd cd nd) (hnk : nd.keys.length = nk) (hnv : nd.vals.length = nv) (hnc : nd.kids.length = nc) (hok : OkN nd)
    (h1 : 504 < sizeP nd) (h2 : lf = true → sizeP nd ≤ 656) (h3 : lf = false → sizeP nd ≤ 647) (hl : last = true → lf = true → sizeP ⟨true, nd.keys.take (nk - 1), nd.vals.take (nk - 1), []⟩ ≤ 504) :
    Calls Try.prog 89 #[ndV lf pk nk ck pv nv cv pd nc cd, .bool last] w fun e w' => ∃ (A C : Nd) (k : Tx) (pa : Option Addr) (ca : Nat) (pa2 : Option Addr) (ca2 : Nat) (pa3 : Option Addr) (ca3 : Nat) (pb : Option Addr) (cb : Nat) (pb2 : Option Addr) (cb2 : Nat) (pb3 : Option Addr) (cb3 : Nat),
      Halves nd A C k ∧ OkN A ∧ OkN C ∧ sizeP A ≤ 504 ∧ sizeP C ≤ 504 ∧ e = .returned (.tuple #[ndV lf pa A.keys.length ca pa2 A.vals.length ca2 pa3 A.kids.length ca3, ndV lf pb C.keys.length cb pb2 C.vals.length cb2 pb3 C.kids.length cb3, .string (B k)]) ∧
      NdAt w' lf pa ca pa2 ca2 pa3 ca3 A ∧ NdAt w' lf pb cb pb2 cb2 pb3 cb3 C ∧ Below w.heap.size w w' ∧ ∀ g, (Value.ownBlock (.slice pb C.keys.length cb) = some g ∨ Value.ownBlock (.slice pb2 C.vals.length cb2) = some g ∨ Value.ownBlock (.slice pb3 C.kids.length cb3) = some g) → w.heap.size ≤ g := by
  have hlf := h.lf
  have hc := costs_le hok
  have hvl : nd.leaf = true → nd.vals.length = nd.keys.length := fun hl => (okn_leaf hok hl).1
  have hkd : nd.leaf = true → nd.kids = [] := fun hl => (okn_leaf hok hl).2.1
  have hkd2 : nd.leaf = false → nd.kids.length = nd.keys.length + 1 := fun hl => by
    unfold OkN at hok
    rw [if_neg (by rw [hl]; simp)] at hok
    exact hok.2.1
  have hsz : sizeP nd ≤ 100000 := by cases lf; have := h3 rfl; omega; have := h2 rfl; omega
  have hks := keys_size hok
  have hlen : (costs nd).length = nd.keys.length := costs_length hok
  cases lf with
  | true =>
    have hs2 := h2 rfl
    obtain ⟨leaf, keys, vals, kids⟩ := nd
    obtain rfl : leaf = true := hlf
    obtain rfl : kids = [] := hkd rfl
    simp only at hnk hnv hnc hvl hks hlen hl
    have hv2 : vals.length = keys.length := hvl trivial
    have hcs := hc.1 rfl
    have hk0 : 0 < nk := by
      rcases Nat.eq_zero_or_pos nk with h0 | h0
      · have : keys = [] := List.eq_nil_of_length_eq_zero (by omega)
        subst this
        have : sizeP ⟨true, [], vals, []⟩ = 2 := by simp [sizeP, costs]
        omega
      · exact h0
    obtain ⟨PI, hPI, hcut⟩ : ∃ PI : Nat → Prop, (∀ i, PI i → 1 ≤ i ∧ i < nk ∧ sizeP ⟨true, keys.take i, vals.take i, []⟩ ≤ 504 ∧ sizeP ⟨true, keys.drop i, vals.drop i, []⟩ ≤ 504) ∧ ∀ w1, Below w.heap.size w w1 → Calls Try.prog 94 #[ndV true pk nk ck pv nk cv pd nc cd, .bool last] w1 fun e w2 => ∃ i : Nat, e = .returned (.int .i64 (i : Int)) ∧ PI i ∧ Below w1.heap.size w1 w2 := by
      cases last with
      | true =>
        have hA := hl rfl trivial
        obtain ⟨x, hx⟩ : ∃ x, (costs ⟨true, keys, vals, []⟩)[nk - 1]? = some x := ⟨_, List.getElem?_eq_getElem (by omega)⟩
        have hxb := hcs x (List.mem_of_getElem? hx)
        have hst := sum_take hx
        rw [List.take_of_length_le (by omega)] at hst
        have hsa : sizeP ⟨true, keys.take (nk - 1), vals.take (nk - 1), []⟩ = 2 + ((costs ⟨true, keys, vals, []⟩).take (nk - 1)).sum := by simp [sizeP, costs_take]
        have hsb : sizeP ⟨true, keys.drop (nk - 1), vals.drop (nk - 1), []⟩ = 2 + ((costs ⟨true, keys, vals, []⟩).drop (nk - 1)).sum := by simp [sizeP, costs_drop]
        have hso : sizeP ⟨true, keys, vals, []⟩ = 2 + (costs ⟨true, keys, vals, []⟩).sum := by simp [sizeP]
        have hsp := sum_split (costs ⟨true, keys, vals, []⟩) (nk - 1)
        refine ⟨fun i => i = nk - 1, ?_, fun w1 _ => (cut_last w1 pk nk ck pv nk cv pd nc cd hk0 (by omega)).mono ?_⟩
        · rintro i rfl
          refine ⟨?_, by omega, hA, by omega⟩
          rcases Nat.lt_or_ge (nk - 1) 1 with h0 | h0
          · have : nk - 1 = 0 := by omega
            rw [this] at hst
            simp only [List.take_zero, List.sum_nil] at hst
            omega
          · exact h0
        · rintro e w2 ⟨rfl, hb⟩
          exact ⟨nk - 1, rfl, rfl, hb⟩
      | false =>
        refine ⟨fun i => i < nk ∧ (∀ j, j < i → allC ⟨true, keys, vals, []⟩ (j + 1) < sizeP ⟨true, keys, vals, []⟩ / 2) ∧ sizeP ⟨true, keys, vals, []⟩ / 2 ≤ allC ⟨true, keys, vals, []⟩ (i + 1), ?_, fun w1 hb1 => ?_⟩
        · rintro i ⟨hi, hlo, hhi⟩
          have := cut_leaf hv2 hcs h1 hs2 (by omega) hlo hhi
          exact ⟨this.1, hi, this.2⟩
        · have hn := h.new hb1
          have hnv2 : nk = nv := by omega
          subst hnv2
          refine (cut_leaf_any w1 ⟨true, keys, vals, []⟩ pk nk ck pv nk cv pd nc cd hn hnk hnv hnc (fun _ => hv2) hkd hkd2 hsz hk0).mono ?_
          rintro e w2 ⟨i, rfl, hi, hlo, hhi, hb⟩
          have := cut_leaf hv2 hcs h1 hs2 (by omega) hlo hhi
          exact ⟨i, by rw [show min (max i 1) (nk - 1) = i by omega], ⟨hi, hlo, hhi⟩, hb⟩
    obtain rfl : nv = nk := by omega
    refine (halves_leaf w ⟨true, keys, vals, []⟩ pk nv ck pv cv pd nc cd last PI h hnk hnv (fun i hi => ⟨(hPI i hi).1, (hPI i hi).2.1⟩) (by omega) hcut).mono ?_
    rintro e w' ⟨i, k, pa, ca, pa2, ca2, pb, cb, pb2, cb2, hpi, hk, rfl, hA, hB, hb, hg1, hg2⟩
    obtain ⟨hi1, hi2, hsA, hsB⟩ := hPI i hpi
    have hla : (keys.take i).length = i := by rw [List.length_take]; omega
    have hlb : (vals.take i).length = i := by rw [List.length_take]; omega
    have hma : (keys.drop i).length = nv - i := by rw [List.length_drop]; omega
    have hmb : (vals.drop i).length = nv - i := by rw [List.length_drop]; omega
    have ho := okn_take hok i
    refine ⟨⟨true, keys.take i, vals.take i, []⟩, ⟨true, keys.drop i, vals.drop i, []⟩, k, pa, ca, pa2, ca2, none, 0, pb, cb, pb2, cb2, none, 0, ⟨fun _ => ⟨i, hi1, by simp only; omega, rfl, rfl, hk⟩, fun h => by cases h⟩, ho.1, ho.2, hsA, hsB, ?_, hA, hB, hb, fun g hg => by
      simp only [hma, hmb] at hg
      rcases hg with hg | hg | hg
      · exact hg1 g hg
      · exact hg2 g hg
      · cases hg⟩
    simp only [hla, hlb, hma, hmb, List.length_nil]
  | false =>
    have hs2 := h3 rfl
    obtain ⟨leaf, keys, vals, kids⟩ := nd
    obtain rfl : leaf = false := hlf
    have hvn : vals = [] := by unfold OkN at hok; simp only [Bool.false_eq_true, if_false] at hok; exact hok.1
    subst hvn
    simp only at hnk hnv hnc hvl hks hlen hl
    have hk2 : kids.length = keys.length + 1 := hkd2 rfl
    have hcs := hc.2 rfl
    have hk0 : 0 < nk := by
      rcases Nat.eq_zero_or_pos nk with h0 | h0
      · have : keys = [] := List.eq_nil_of_length_eq_zero (by omega)
        subst this
        have : sizeP ⟨false, [], [], kids⟩ = 4 := by simp [sizeP, costs]; simp at hk2; omega
        omega
      · exact h0
    have hcut : ∀ w1, Below w.heap.size w w1 → Calls Try.prog 94 #[ndV false pk nk ck pv nv cv pd nc cd, .bool last] w1 fun e w2 => ∃ i : Nat, e = .returned (.int .i64 (i : Int)) ∧ (i < nk ∧ (∀ j, j < i → allC ⟨false, keys, [], kids⟩ (j + 1) < sizeP ⟨false, keys, [], kids⟩ / 2) ∧ sizeP ⟨false, keys, [], kids⟩ / 2 ≤ allC ⟨false, keys, [], kids⟩ (i + 1)) ∧ Below w1.heap.size w1 w2 := by
      intro w1 hb1
      cases last with
      | true =>
        refine (cut_inner_t w1 ⟨false, keys, [], kids⟩ pk nk ck pv nv cv pd nc cd (h.new hb1) hnk hnv hnc (fun h => by cases h) hkd hkd2 hsz hk0).mono ?_
        rintro e w2 ⟨i, rfl, hi, hlo, hhi, hb⟩
        have := cut_inner hk2 hcs h1 hs2 (by omega) hlo hhi
        exact ⟨i, by rw [show min (max i 1) (nk - 1) = i by omega], ⟨hi, hlo, hhi⟩, hb⟩
      | false =>
        refine (cut_inner_f w1 ⟨false, keys, [], kids⟩ pk nk ck pv nv cv pd nc cd (h.new hb1) hnk hnv hnc (fun h => by cases h) hkd hkd2 hsz hk0).mono ?_
        rintro e w2 ⟨i, rfl, hi, hlo, hhi, hb⟩
        have := cut_inner hk2 hcs h1 hs2 (by omega) hlo hhi
        exact ⟨i, by rw [show min (max i 1) (nk - 1) = i by omega], ⟨hi, hlo, hhi⟩, hb⟩
    have hPI : ∀ i, (i < nk ∧ (∀ j, j < i → allC ⟨false, keys, [], kids⟩ (j + 1) < sizeP ⟨false, keys, [], kids⟩ / 2) ∧ sizeP ⟨false, keys, [], kids⟩ / 2 ≤ allC ⟨false, keys, [], kids⟩ (i + 1)) → 1 ≤ i ∧ i + 1 < nk ∧ sizeP ⟨false, keys.take i, [], kids.take (i + 1)⟩ ≤ 504 ∧ sizeP ⟨false, keys.drop (i + 1), [], kids.drop (i + 1)⟩ ≤ 504 := by
      rintro i ⟨hi, hlo, hhi⟩
      have := cut_inner hk2 hcs h1 hs2 (by omega) hlo hhi
      exact ⟨this.1, by omega, this.2.2⟩
    refine (halves_inner w ⟨false, keys, [], kids⟩ pk nk ck pv nv cv pd nc cd last _ h hnk hnc (by omega) (fun i hi => ⟨(hPI i hi).1, (hPI i hi).2.1⟩) (by omega) hcut).mono ?_
    rintro e w' ⟨i, k, pa, ca, pa2, ca2, pb, cb, pb2, cb2, hpi, hk, rfl, hA, hB, hb, hg1, hg2⟩
    obtain ⟨hi1, hi2, hsA, hsB⟩ := hPI i hpi
    have hla : (keys.take i).length = i := by rw [List.length_take]; omega
    have hlb : (kids.take (i + 1)).length = i + 1 := by rw [List.length_take]; omega
    have hma : (keys.drop (i + 1)).length = nk - (i + 1) := by rw [List.length_drop]; omega
    have hmb : (kids.drop (i + 1)).length = nc - (i + 1) := by rw [List.length_drop]; omega
    have ho := okn_take_in hok (i := i) (by omega)
    refine ⟨⟨false, keys.take i, [], kids.take (i + 1)⟩, ⟨false, keys.drop (i + 1), [], kids.drop (i + 1)⟩, k, pa, ca, none, 0, pa2, ca2, pb, cb, none, 0, pb2, cb2, ⟨fun h => (by cases h), fun _ => ⟨i, hi1, by simp only; omega, rfl, rfl, hk⟩⟩, ho.1, ho.2, hsA, hsB, ?_, hA, hB, hb, fun g hg => by
      simp only [hma, hmb] at hg
      rcases hg with hg | hg | hg
      · exact hg1 g hg
      · cases hg
      · exact hg2 g hg⟩
    simp only [hla, hlb, hma, hmb, List.length_nil]
end Go.Proofs.Ytdilkgcoecipjaa
