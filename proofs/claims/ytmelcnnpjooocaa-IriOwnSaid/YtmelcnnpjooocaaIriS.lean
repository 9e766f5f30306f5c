/- iri.Split. -/
import Derived.Test.YtmelcnnpjooocaaIriR
import Derived.Test.YtmelcnnpjooocaaArr
import Derived.Test.YtmelcnnpjooocaaOrd
import Derived.Laws.Rows
namespace Go.Proofs.Ytmelcnnpjooocaa
open Go.RowKit
set_option linter.unusedVariables false

theorem five_cells {w : World} {r : Nat} {x0 x1 x2 x3 x4 : Value} {T : TypeId} (h : Blk w r [x0, x1, x2, x3, x4] T) :
    w.cell? ⟨r, 0, none⟩ = some x0 ∧ w.cell? ⟨r, 1, none⟩ = some x1 ∧ w.cell? ⟨r, 2, none⟩ = some x2 ∧ w.cell? ⟨r, 3, none⟩ = some x3 ∧ w.cell? ⟨r, 4, none⟩ = some x4 ∧
    w.frozen? ⟨r, 0, none⟩ = false ∧ w.frozen? ⟨r, 1, none⟩ = false ∧ w.frozen? ⟨r, 2, none⟩ = false ∧ w.frozen? ⟨r, 3, none⟩ = false ∧ w.frozen? ⟨r, 4, none⟩ = false := by
  refine ⟨?_, ?_, ?_, ?_, ?_, h.frozen 0, h.frozen 1, h.frozen 2, h.frozen 3, h.frozen 4⟩ <;> rw [h.cell] <;> rfl

/-- operations on texts, whatever the world -/
theorem exec_add {P : Program} {w : World} {a : Act} {o : Oper} (t ty : TypeId) (x y : Operand) (ho : o.op = .binOp .add t x y ty) (l m : List UInt8) (hx : a.eval x = .string (B l)) (hy : a.eval y = .string (B m)) (hl : l.length + m.length ≤ 1000000000) :
    (execOp a.eval o).run P w = .ok (.value (.string (B (l ++ m)))) w := by
  have h : ¬ (((B l).size + (B m).size : Nat) : Int) > IntKind.i64.max := by rw [B_size, B_size]; simp [IntKind.max, IntKind.bits, IntKind.signed]; omega
  unfold execOp
  simp only [ho, hx, hy, binOp_string_add, Op.stringOp, if_neg h, B_append, Sem.run_bind, Sem.run_pure]
  simp [eqGuard]
theorem exec_from {P : Program} {w : World} {a : Act} {o : Oper} (t : TypeId) (x k : Operand) (ho : o.op = .slice t x (some k) none none) (ht : P.underlying t = some .string) (l : List UInt8) (i : Nat) (hx : a.eval x = .string (B l)) (hk : a.eval k = .int .i64 (i : Int)) (hi : i ≤ l.length) :
    (execOp a.eval o).run P w = .ok (.value (.string (B (l.drop i)))) w := by
  have hr := run_slice_string_from_if (P := P) w t (B l) .i64 (i : Int) ht
  rw [if_pos (by rw [B_size]; omega), B_size, Int.toNat_natCast, B_extract_from] at hr
  unfold execOp
  simp only [ho, hx, hk, Option.map_none, Option.map_some, Sem.run_bind, Sem.run_pure]
  simp [Instr.sliceAt, run_underlying ht, hr]
theorem exec_to {P : Program} {w : World} {a : Act} {o : Oper} (t : TypeId) (x k : Operand) (ho : o.op = .slice t x none (some k) none) (ht : P.underlying t = some .string) (l : List UInt8) (i : Nat) (hx : a.eval x = .string (B l)) (hk : a.eval k = .int .i64 (i : Int)) (hi : i ≤ l.length) :
    (execOp a.eval o).run P w = .ok (.value (.string (B (l.take i)))) w := by
  have hr := run_slice_string_to_if (P := P) w t (B l) .i64 (i : Int) ht
  rw [if_pos (by rw [B_size]; omega), Int.toNat_natCast, B_extract_to] at hr
  unfold execOp
  simp only [ho, hx, hk, Option.map_none, Option.map_some, Sem.run_bind, Sem.run_pure]
  simp [Instr.sliceAt, run_underlying ht, hr]

/-- five texts in a block -/
def V5 (w : World) (g : Nat) (a b c d e : List UInt8) : Prop := Blk w g [.string (B a), .string (B b), .string (B c), .string (B d), .string (B e)] 26
structure SpAt (W : Nat) (w wr : World) (g : Nat) (a b c d e : List UInt8) : Prop where
  res : V5 wr W [] [] [] [] []
  out : V5 wr g a b c d e
  lo : W < g
  bel : Below W w wr

theorem SpAt.new {W : Nat} {w wr w' : World} {g : Nat} {a b c d e : List UInt8} (h : SpAt W w wr g a b c d e) (hb : Below wr.heap.size wr w') : SpAt W w w' g a b c d e :=
  ⟨h.res.chg (Chg.new hb NoFp) (fun h => h), h.out.chg (Chg.new hb NoFp) (fun h => h), h.lo, h.bel.trans (hb.mono (Nat.le_of_lt (Nat.lt_trans h.lo h.out.lt)))⟩
theorem SpAt.drew {W : Nat} {w wr : World} {g : Nat} {a b c d e : List UInt8} (h : SpAt W w wr g a b c d e) : SpAt W w wr.drew g a b c d e := h.new (Below.refl _ _).drew
theorem SpAt.set {W : Nat} {w wr : World} {g : Nat} {a b c d e : List UInt8} (h : SpAt W w wr g a b c d e) (i : Nat) (x a' b' c' d' e' : List UInt8)
    (hs : [Value.string (B a), .string (B b), .string (B c), .string (B d), .string (B e)].set i (.string (B x)) = [.string (B a'), .string (B b'), .string (B c'), .string (B d'), .string (B e')]) : SpAt W w (wr.setCell ⟨g, i, none⟩ (.string (B x))) g a' b' c' d' e' := by
  have hlo := h.lo
  refine ⟨h.res.chg (Chg.setCell (fp := fun k => k = g) wr rfl _) (by intro h2; omega), ?_, h.lo, h.bel.setCell (by show W ≤ g; omega) _⟩
  have h1 := Blk.set h.out i (.string (B x))
  rw [hs] at h1
  exact h1

theorem SpAt.fin {W : Nat} {w wr : World} {g : Nat} {a b c d e : List UInt8} (h : SpAt W w wr g a b c d e) :
    V5 (((((wr.setCell ⟨W, 0, none⟩ (.string (B a))).setCell ⟨W, 1, none⟩ (.string (B b))).setCell ⟨W, 2, none⟩ (.string (B c))).setCell ⟨W, 3, none⟩ (.string (B d))).setCell ⟨W, 4, none⟩ (.string (B e))) W a b c d e ∧
    Below W w (((((wr.setCell ⟨W, 0, none⟩ (.string (B a))).setCell ⟨W, 1, none⟩ (.string (B b))).setCell ⟨W, 2, none⟩ (.string (B c))).setCell ⟨W, 3, none⟩ (.string (B d))).setCell ⟨W, 4, none⟩ (.string (B e))) := by
  refine ⟨?_, ?_⟩
  · exact ((((Blk.set h.res 0 (.string (B a))).set 1 (.string (B b))).set 2 (.string (B c))).set 3 (.string (B d))).set 4 (.string (B e))
  · exact ((((h.bel.setCell (Nat.le_refl W) _).setCell (Nat.le_refl W) _).setCell (Nat.le_refl W) _).setCell (Nat.le_refl W) _).setCell (Nat.le_refl W) _

abbrev E5 : Obj := Obj.cells #[.string ⟨#[]⟩, .string ⟨#[]⟩, .string ⟨#[]⟩, .string ⟨#[]⟩, .string ⟨#[]⟩] 26
theorem sp_start (w : World) : SpAt w.heap.size w ((w.alloc E5).alloc E5) (w.heap.size + 1) [] [] [] [] [] := by
  have h1 : V5 (w.alloc E5) w.heap.size [] [] [] [] [] := heap_alloc_new w _
  have h2 := heap_alloc_new (w.alloc E5) E5
  have h3 : (w.alloc E5).heap.size = w.heap.size + 1 := by simp
  rw [h3] at h2
  exact ⟨h1.chg (Chg.alloc NoFp _ _) (fun h => h), h2, Nat.lt_succ_self _, ((Below.refl _ _).alloc (Nat.le_refl _) _).alloc (by simp) _⟩

set_option maxRecDepth 100000 in
set_option maxHeartbeats 1600000 in
theorem iSplit_any (l : List UInt8) (w : World) (hl : l.length ≤ 1000000) :
    Calls Try.prog 9 #[.string (B l)] w fun e w' => e = .returned (split l).val ∧ Below w.heap.size w w' := by
  go_enter Try.func9, Try.ntmps9
  go_wp2_with fail
  have hS := sp_start w
  unfold E5 at hS
  generalize ((w.alloc (Obj.cells #[.string ⟨#[]⟩, .string ⟨#[]⟩, .string ⟨#[]⟩, .string ⟨#[]⟩, .string ⟨#[]⟩] 26)).alloc (Obj.cells #[.string ⟨#[]⟩, .string ⟨#[]⟩, .string ⟨#[]⟩, .string ⟨#[]⟩, .string ⟨#[]⟩] 26)) = wa at hS ⊢
  have S0 := hid hS
  clear hS
  refine (upto_any l _ _ hl).mono ?_; rintro e1 w1 ⟨rfl, hb⟩
  have S1 := hid (S0.out.new hb)
  clear hb S0
  have hn := up_le [58, 47, 63, 35] l
  generalize hN : up [58, 47, 63, 35] l = n at hn ⊢
  have HN := hid hN
  clear hN
  by_cases h0 : n = 0
  case' pos =>
    have hs1 : (spS l).1 = [] := by unfold spS; rw [HN.out, if_neg (by simp [h0])]
    have hs2 : (spS l).2 = l := by unfold spS; rw [HN.out, if_neg (by simp [h0])]
    have S2 : Hid (SpAt w.heap.size w w1 (w.heap.size + 1) (spS l).1 [] [] [] []) := hid (by rw [hs1]; exact S1.out)
    have E2 := hid hs2
    clear hs1 hs2 S1
    subst h0
    go_wp2_with fail
    rw [← E2.out]
    clear E2 HN hn
  case' neg =>
    have hne : (l.take n == []) = false := by
      apply Bool.eq_false_iff.2
      intro h
      have h2 := congrArg List.length (eq_of_beq h)
      rw [List.length_take] at h2
      simp only [List.length_nil] at h2
      omega
    go_wp2_with fail
    refine (hp_any (l.drop n) [58] _).mono ?_; rintro e1 wx ⟨rfl, hw⟩
    subst hw
    rcases Bool.eq_false_or_eq_true (hp [58] (l.drop n)) with h2 | h2
    case' inl =>
      have H2 := hid h2
      rw [h2]
      have hlen : 1 ≤ (l.drop n).length := by have := hp_length h2; simpa using this
      have hs1 : (spS l).1 = l.take n ++ [58] := by
        unfold spS; rw [HN.out, if_pos ⟨h0, h2⟩]
        have h3 := hp_one.1 h2
        rw [List.getElem?_drop, Nat.add_zero] at h3
        show l.take (n + 1) = _
        rw [List.take_add_one, h3]; rfl
      have hs2 : (spS l).2 = l.drop (n + 1) := by
        unfold spS; rw [HN.out, if_pos ⟨h0, h2⟩]
      have HS1 := hid hs1
      have HS2 := hid hs2
      have hlen2 : (1 : Int) ≤ ((l.drop n).length : Int) := by omega
      clear h2 hs1 hs2
      go_wp2_with fail
      obtain ⟨c0, c1, c2, c3, c4, f0, f1, f2, f3, f4⟩ := five_cells S1.out.out
      refine wp_region_plan (fun _ => True) (fun j => decide (j < 5)) (fun _ => false)
        (.of [0, 1, 2, 3, 4, 5, 6]) (by kernel_rfl) (by kernel_rfl) rfl (by kernel_rfl) (by kernel_rfl) trivial ?_
      apply wpPlan_val
      case ho => rfl
      case hst => rfl
      case hw => rfl
      case hv => intro w' hS; go_simp; first | done | rfl
      intro K hK
      go_simp
      refine hK _ ?_
      clear hK K
      apply wpPlan_val
      case ho => rfl
      case hst => rfl
      case hw => rfl
      case hv => intro w' hS; exact exec_add _ _ _ _ rfl (l.take n) [58] rfl rfl (by rw [List.length_take]; simp; omega)
      intro K hK
      go_simp
      refine hK _ ?_
      clear hK K
      apply wpPlan_val
      case ho => rfl
      case hst => rfl
      case hw => rfl
      case hv => intro w' hS; go_simp; first | done | rfl
      intro K hK
      go_simp
      refine hK _ ?_
      clear hK K
      apply wpPlan_val
      case ho => rfl
      case hst => rfl
      case hw => rfl
      case hv => intro w' hS; exact exec_from 9 _ _ rfl Try.underlying9 (l.drop n) 1 rfl rfl hlen
      intro K hK
      go_simp
      refine hK _ ?_
      clear hK K
      apply wpPlan_val
      case ho => rfl
      case hst => rfl
      case hw => rfl
      case hv => intro w' hS; go_simp; first | done | rfl
      intro K hK
      go_simp
      refine hK _ ?_
      clear hK K
      refine wpPlan_list rfl rfl rfl (fun K hK => ?_)
      refine wpList_step (fun K2 hK2 => ?_)
      go_simp
      refine hK2 _ _ ?_
      clear hK2 K2
      simp only [wpList]
      refine hK _ _ (fun _ => trivial) ?_
      clear hK K
      refine wpPlan_list rfl rfl rfl (fun K hK => ?_)
      refine wpList_step (fun K2 hK2 => ?_)
      go_simp
      refine hK2 _ _ ?_
      clear hK2 K2
      simp only [wpList]
      refine hK _ _ (fun _ => trivial) ?_
      clear hK K
      refine wpPlan_nil ?_
      simp only [Qn]
      go_wp2_with fail
      have S2 : Hid (SpAt w.heap.size w (w1.setCell ⟨w.heap.size + 1, 0, none⟩ (.string (B (l.take n ++ [58])))).drew (w.heap.size + 1) (spS l).1 [] [] [] []) := hid (by rw [HS1.out]; exact (S1.out.set 0 (l.take n ++ [58]) _ [] [] [] [] rfl).drew)
      generalize (w1.setCell ⟨w.heap.size + 1, 0, none⟩ (.string (B (l.take n ++ [58])))).drew = w2 at S2 ⊢
      rw [← HS2.out]
      clear HS1 HS2 S1 HN hn hne h0 H2 hlen hlen2 c0 c1 c2 c3 c4 f0 f1 f2 f3 f4
    case' inr =>
      have hs1 : (spS l).1 = [] := by unfold spS; rw [HN.out, if_neg (by simp [h2])]
      have hs2 : (spS l).2 = l := by unfold spS; rw [HN.out, if_neg (by simp [h2])]
      have S2 : Hid (SpAt w.heap.size w w1 (w.heap.size + 1) (spS l).1 [] [] [] []) := hid (by rw [hs1]; exact S1.out)
      have E2 := hid hs2
      rw [h2]
      clear hs1 hs2 S1 h2
      go_wp2_with fail
      rw [← E2.out]
      clear E2 HN hn hne h0
  all_goals
    generalize hs1 : (spS l).2 = s1 at S2 ⊢
    generalize hp0 : (spS l).1 = p0 at S2 ⊢
    have HS1 := hid hs1
    have HP0 := hid hp0
    have hl1 : s1.length ≤ 1000000 := by have := cat_len (spS_cat l); rw [hs1] at this; omega
    clear hs1 hp0 hl
    refine (hp_any s1 [47, 47] _).mono ?_; rintro e1 wx ⟨rfl, hw⟩
    subst hw
    rcases Bool.eq_false_or_eq_true (hp [47, 47] s1) with h2 | h2
    case' inl =>
      have H2 := hid h2
      rw [h2]
      have hlen : 2 ≤ s1.length := hp_length h2
      have hlen2 : (2 : Int) ≤ (s1.length : Int) := by omega
      clear h2
      go_wp2_with fail
      refine (upto_any (s1.drop 2) _ _ (by rw [List.length_drop]; omega)).mono ?_; rintro e1 w3 ⟨rfl, hb⟩
      have S3 := hid (S2.out.new hb)
      clear hb S2
      obtain ⟨c0, c1, c2, c3, c4, f0, f1, f2, f3, f4⟩ := five_cells S3.out.out
      generalize hN : up [47, 63, 35] (s1.drop 2) = n
      have hn : n ≤ s1.length := by have := up_le [47, 63, 35] (s1.drop 2); rw [List.length_drop] at this; omega
      have HN := hid hN
      clear hN
      have ha1 : (spA s1).1 = 47 :: 47 :: (s1.drop 2).take n := by
        unfold spA; rw [if_pos H2.out, HN.out]
        show s1.take (2 + n) = _
        rw [List.take_add, eq_of_beq (show (s1.take 2 == [47, 47]) = true from H2.out)]; rfl
      have hs2 : (spA s1).2 = s1.drop (2 + n) := by unfold spA; rw [if_pos H2.out, HN.out]
      have HA1 := hid ha1
      have HS2 := hid hs2
      clear ha1 hs2
      go_wp2_with fail
      have S4 : Hid (SpAt w.heap.size w (w3.setCell ⟨w.heap.size + 1, 1, none⟩ (.string (B (47 :: 47 :: (s1.drop 2).take n)))) (w.heap.size + 1) p0 (spA s1).1 [] [] []) := hid (by rw [HA1.out]; exact S3.out.set 1 _ _ _ _ _ _ rfl)
      generalize w3.setCell ⟨w.heap.size + 1, 1, none⟩ (.string (B (47 :: 47 :: (s1.drop 2).take n))) = w4 at S4 ⊢
      rw [← HS2.out]
      clear HS2 HA1 S3 HN hn H2 hlen hlen2 c0 c1 c2 c3 c4 f0 f1 f2 f3 f4
    case' inr =>
      have ha1 : (spA s1).1 = [] := by unfold spA; rw [if_neg (by simp [h2])]
      have hs2 : (spA s1).2 = s1 := by unfold spA; rw [if_neg (by simp [h2])]
      have HA1 := hid ha1
      have HS2 := hid hs2
      rw [h2]
      clear ha1 hs2 h2
      go_wp2_with fail
      have S4 := hid (show SpAt w.heap.size w _ (w.heap.size + 1) p0 (spA s1).1 [] [] [] by rw [HA1.out]; exact S2.out)
      rw [← HS2.out]
      clear HS2 HA1 S2
  all_goals
    generalize hs2 : (spA s1).2 = s2 at S4 ⊢
    generalize ha1 : (spA s1).1 = a1 at S4 ⊢
    have HS2 := hid hs2
    have HA1 := hid ha1
    have hl2 : s2.length ≤ 1000000 := by have := cat_len (spA_cat s1); rw [hs2] at this; omega
    clear hs2 ha1 hl1
    refine (upto_any s2 [63, 35] _ hl2).mono ?_; rintro e1 w5 ⟨rfl, hb⟩
    have S5 := hid (S4.out.new hb)
    clear hb S4
    have hn := up_le [63, 35] s2
    have hl3 : (s2.drop (up [63, 35] s2)).length ≤ 1000000 := by rw [List.length_drop]; omega
    obtain ⟨c0, c1, c2, c3, c4, f0, f1, f2, f3, f4⟩ := five_cells S5.out.out
    go_wp2_with fail
    have S6 : Hid (SpAt w.heap.size w (w5.setCell ⟨w.heap.size + 1, 2, none⟩ (.string (B (s2.take (up [63, 35] s2))))) (w.heap.size + 1) p0 a1 (s2.take (up [63, 35] s2)) [] []) := hid (S5.out.set 2 _ _ _ _ _ _ rfl)
    generalize w5.setCell ⟨w.heap.size + 1, 2, none⟩ (.string (B (s2.take (up [63, 35] s2)))) = w6 at S6 ⊢
    have HP2 : Hid (spP s2 = (s2.take (up [63, 35] s2), s2.drop (up [63, 35] s2))) := hid rfl
    generalize s2.take (up [63, 35] s2) = pa at S6 HP2 ⊢
    generalize s2.drop (up [63, 35] s2) = s3 at hl3 HP2 ⊢
    clear S5 hn c0 c1 c2 c3 c4 f0 f1 f2 f3 f4
    refine (hp_any s3 [63] _).mono ?_; rintro e1 wx ⟨rfl, hw⟩
    subst hw
    rcases Bool.eq_false_or_eq_true (hp [63] s3) with h2 | h2
    case' inl =>
      have hs4 : spQ s3 = (s3.take (up [35] s3), s3.drop (up [35] s3)) := by unfold spQ; rw [if_pos h2]
      have HQ := hid hs4
      rw [h2]
      clear hs4 h2
      go_wp2_with fail
      refine (upto_any s3 [35] _ hl3).mono ?_; rintro e1 w7 ⟨rfl, hb⟩
      have S7 := hid (S6.out.new hb)
      clear hb S6
      generalize s3.take (up [35] s3) = qu at HQ ⊢
      generalize s3.drop (up [35] s3) = s4 at HQ ⊢
      obtain ⟨c0, c1, c2, c3, c4, f0, f1, f2, f3, f4⟩ := five_cells S7.out.out
      obtain ⟨d0, d1, d2, d3, d4, g0, g1, g2, g3, g4⟩ := five_cells S7.out.res
      go_wp2_with fail
      have hfin := ((S7.out.set 3 qu p0 a1 pa qu [] rfl).set 4 s4 p0 a1 pa qu s4 rfl).fin
      refine bodyPost_ret (results_cell_row rfl _ _ w.heap.size 26 _ (0, 0) _ rfl hfin.1 Try.underlying26 rfl (by kernel_rfl)) rfl ?_
      refine ⟨?_, hfin.2⟩
      unfold split
      rw [HP0.out, HS1.out, HA1.out, HS2.out, HP2.out, HQ.out]
      rfl
    case' inr =>
      have hs4 : spQ s3 = ([], s3) := by unfold spQ; rw [if_neg (by simp [h2])]
      have HQ := hid hs4
      rw [h2]
      clear hs4 h2
      obtain ⟨c0, c1, c2, c3, c4, f0, f1, f2, f3, f4⟩ := five_cells S6.out.out
      obtain ⟨d0, d1, d2, d3, d4, g0, g1, g2, g3, g4⟩ := five_cells S6.out.res
      go_wp2_with fail
      have hfin := (S6.out.set 4 s3 p0 a1 pa [] s3 rfl).fin
      refine bodyPost_ret (results_cell_row rfl _ _ w.heap.size 26 _ (0, 0) _ rfl hfin.1 Try.underlying26 rfl (by kernel_rfl)) rfl ?_
      refine ⟨?_, hfin.2⟩
      unfold split
      rw [HP0.out, HS1.out, HA1.out, HS2.out, HP2.out, HQ.out]
      rfl
end Go.Proofs.Ytmelcnnpjooocaa
