/- triadref10.Resolve. -/
import Derived.Test.YtmelcnnpjooocaaIriE
import Derived.Test.YtmelcnnpjooocaaIriT
namespace Go.Proofs.Ytmelcnnpjooocaa
open Go.RowKit
set_option linter.unusedVariables false

def resolveP (x y : P5) : List UInt8 :=
  if y.sc ≠ [] then y.sc ++ y.au ++ dots y.pa ++ y.qu ++ y.fr
  else if y.au ≠ [] then x.sc ++ y.au ++ dots y.pa ++ y.qu ++ y.fr
  else if y.pa = [] then x.sc ++ x.au ++ x.pa ++ (if y.qu = [] then x.qu else y.qu) ++ y.fr
  else if y.pa[0]? = some 47 then x.sc ++ x.au ++ dots y.pa ++ y.qu ++ y.fr
  else x.sc ++ x.au ++ dots (beside x y.pa) ++ y.qu ++ y.fr
theorem resolve_eq (b r : List UInt8) : resolve b r = resolveP (split b) (split r) := rfl

def V5p (w : World) (g : Nat) (p : P5) : Prop := V5 w g p.sc p.au p.pa p.qu p.fr
theorem V5p.new {w w' : World} {g : Nat} {p : P5} (h : V5p w g p) (hb : Below w.heap.size w w') : V5p w' g p := Blk.chg h (Chg.new hb NoFp) (fun h => h)
abbrev O5 (p : P5) : Obj := Obj.cells #[.string (B p.sc), .string (B p.au), .string (B p.pa), .string (B p.qu), .string (B p.fr)] 26
theorem two_alloc (w : World) (x y : P5) : (V5p ((w.alloc (O5 x)).alloc (O5 y)) w.heap.size x ∧ V5p ((w.alloc (O5 x)).alloc (O5 y)) (w.heap.size + 1) y) ∧ Below w.heap.size w ((w.alloc (O5 x)).alloc (O5 y)) := by
  have h1 : V5p (w.alloc (O5 x)) w.heap.size x := heap_alloc_new w _
  have h2 := heap_alloc_new (w.alloc (O5 x)) (O5 y)
  have h3 : (w.alloc (O5 x)).heap.size = w.heap.size + 1 := by simp
  rw [h3] at h2
  exact ⟨⟨Blk.chg h1 (Chg.alloc NoFp _ _) (fun h => h), h2⟩, ((Below.refl _ _).alloc (Nat.le_refl _) _).alloc (by simp) _⟩

theorem xSplit_agg (l : List UInt8) (p : P5) (hp : split l = p) (w : World) (hl : l.length ≤ 1000) :
    Calls Try.prog 10 #[.string (B l)] w fun e w' => e = .returned (.agg #[.string (B p.sc), .string (B p.au), .string (B p.pa), .string (B p.qu), .string (B p.fr)]) ∧ Below w.heap.size w w' := by
  subst hp
  exact xSplit_any l w (by omega)

theorem lastN_spec (l : List UInt8) (k : Nat) : (lastN l k = -1 ∧ ∀ j, j < k → l[j]? ≠ some 47) ∨ ∃ i : Nat, i < k ∧ lastN l k = i ∧ l[i]? = some 47 := by
  induction k with
  | zero => exact .inl ⟨rfl, fun j hj => by omega⟩
  | succ k ih =>
    by_cases h : l[k]? = some 47
    · exact .inr ⟨k, by omega, by rw [lastN, if_pos h], h⟩
    · rw [lastN, if_neg h]
      rcases ih with ⟨h1, h2⟩ | ⟨i, h1, h2, h3⟩
      · exact .inl ⟨h1, fun j hj => by
          by_cases hjk : j = k
          · rw [hjk]; exact h
          · exact h2 j (by omega)⟩
      · exact .inr ⟨i, by omega, h2, h3⟩
theorem last_no {l : List UInt8} (h : l.contains 47 = false) : last l = -1 := by
  rcases lastN_spec l l.length with ⟨h1, _⟩ | ⟨i, _, _, h3⟩
  · exact h1
  · have h4 : l.contains 47 = true := by simpa using List.mem_of_getElem? h3
    rw [h4] at h; cases h
theorem last_yes {l : List UInt8} (h : l.contains 47 = true) : l.take (last l + 1).toNat = back l ++ [47] := by
  rcases lastN_spec l l.length with ⟨_, h2⟩ | ⟨i, h1, h2, h3⟩
  · have h4 : (47 : UInt8) ∈ l := by simpa using h
    obtain ⟨j, hj, he⟩ := List.getElem_of_mem h4
    exact (h2 j hj (by rw [List.getElem?_eq_getElem hj, he])).elim
  · have h5 : last l = i := h2
    unfold back
    rw [h5]
    have h6 : ((i : Int) + 1).toNat = i + 1 := by omega
    have h7 : (max (i : Int) 0).toNat = i := by omega
    rw [h6, h7, List.take_add_one, h3]; rfl
theorem bno {a : List UInt8} (h : ¬ a = []) : (a == []) = false := by simpa using h
theorem byes {a : List UInt8} (h : a = []) : (a == []) = true := by simpa using h

set_option maxRecDepth 100000 in
set_option maxHeartbeats 4000000 in
theorem xResolve_any (b r : List UInt8) (w : World) (hb : b.length ≤ 1000) (hr : r.length ≤ 1000) :
    Calls Try.prog 12 #[.string (B b), .string (B r)] w fun e w' => e = .returned (.string (B (resolve b r))) ∧ Below w.heap.size w w' := by
  rw [resolve_eq]
  have hlx := split_len b
  have hly := split_len r
  generalize hx : split b = x at hlx
  generalize hy : split r = y at hly
  have HX := hid hx
  have HY := hid hy
  clear hx hy
  have hdl := dots_len y.pa
  go_enter Try.func12, Try.ntmps12
  go_wp2_with fail
  refine (xSplit_agg b x HX.out _ hb).mono ?_; rintro e1 w1 ⟨rfl, hb1⟩
  have B1 := hid hb1
  clear hb1
  go_wp2_with fail
  refine (xSplit_agg r y HY.out _ hr).mono ?_; rintro e1 w2 ⟨rfl, hb2⟩
  have B2 := hid (B1.out.trans (hb2.mono B1.out.size))
  clear hb2 B1 HX HY
  by_cases h0 : y.sc = []
  case' neg =>
    have E := hid (show resolveP x y = y.sc ++ y.au ++ dots y.pa ++ y.qu ++ y.fr by unfold resolveP; rw [if_pos h0])
    have b0 := bno h0
    clear h0
    go_wp2_with fail
    have hS := two_alloc w2 x y
    unfold O5 at hS
    generalize (w2.alloc (Obj.cells #[.string (B x.sc), .string (B x.au), .string (B x.pa), .string (B x.qu), .string (B x.fr)] 26)).alloc (Obj.cells #[.string (B y.sc), .string (B y.au), .string (B y.pa), .string (B y.qu), .string (B y.fr)] 26) = w3 at hS ⊢
    have S3 := hid hS.1
    have B3 := hid (B2.out.trans (hS.2.mono B2.out.size))
    clear hS B2
    refine wp_region_plan (fun w' => V5p w' w2.heap.size x ∧ V5p w' (w2.heap.size + 1) y) (fun j => decide (j ≠ 7)) (fun _ => false)
      (.of [0, 1, 2, 3, 4, 5, 6, 9, 10, 12, 13, 7, 8, 11, 14, 15]) (by kernel_rfl) (by kernel_rfl) rfl (by kernel_rfl) (by kernel_rfl) ⟨S3.out.1, S3.out.2⟩ ?_
    apply wpPlan_val
    case ho => rfl
    case hst => rfl
    case hw => rfl
    case hv => intro w' hS; go_simp; first | done | rfl
    intro K hK
    go_simp
    refine hK _ ?_
    clear hK K
    apply wpPlan_val
    case ho => rfl
    case hst => rfl
    case hw => rfl
    case hv => intro w' hS; obtain ⟨c0, c1, c2, c3, c4, f0, f1, f2, f3, f4⟩ := five_cells hS.1; obtain ⟨d0, d1, d2, d3, d4, g0, g1, g2, g3, g4⟩ := five_cells hS.2; go_simp; first | done | rfl
    intro K hK
    go_simp
    refine hK _ ?_
    clear hK K
    apply wpPlan_val
    case ho => rfl
    case hst => rfl
    case hw => rfl
    case hv => intro w' hS; go_simp; first | done | rfl
    intro K hK
    go_simp
    refine hK _ ?_
    clear hK K
    apply wpPlan_val
    case ho => rfl
    case hst => rfl
    case hw => rfl
    case hv => intro w' hS; obtain ⟨c0, c1, c2, c3, c4, f0, f1, f2, f3, f4⟩ := five_cells hS.1; obtain ⟨d0, d1, d2, d3, d4, g0, g1, g2, g3, g4⟩ := five_cells hS.2; go_simp; first | done | rfl
    intro K hK
    go_simp
    refine hK _ ?_
    clear hK K
    apply wpPlan_val
    case ho => rfl
    case hst => rfl
    case hw => rfl
    case hv => intro w' hS; exact exec_add _ _ _ _ rfl (y.sc) (y.au) rfl rfl (by first | omega | (simp; done) | (simp; omega))
    intro K hK
    go_simp
    refine hK _ ?_
    clear hK K
    apply wpPlan_val
    case ho => rfl
    case hst => rfl
    case hw => rfl
    case hv => intro w' hS; go_simp; first | done | rfl
    intro K hK
    go_simp
    refine hK _ ?_
    clear hK K
    apply wpPlan_val
    case ho => rfl
    case hst => rfl
    case hw => rfl
    case hv => intro w' hS; obtain ⟨c0, c1, c2, c3, c4, f0, f1, f2, f3, f4⟩ := five_cells hS.1; obtain ⟨d0, d1, d2, d3, d4, g0, g1, g2, g3, g4⟩ := five_cells hS.2; go_simp; first | done | rfl
    intro K hK
    go_simp
    refine hK _ ?_
    clear hK K
    apply wpPlan_val
    case ho => rfl
    case hst => rfl
    case hw => rfl
    case hv => intro w' hS; go_simp; first | done | rfl
    intro K hK
    go_simp
    refine hK _ ?_
    clear hK K
    apply wpPlan_val
    case ho => rfl
    case hst => rfl
    case hw => rfl
    case hv => intro w' hS; obtain ⟨c0, c1, c2, c3, c4, f0, f1, f2, f3, f4⟩ := five_cells hS.1; obtain ⟨d0, d1, d2, d3, d4, g0, g1, g2, g3, g4⟩ := five_cells hS.2; go_simp; first | done | rfl
    intro K hK
    go_simp
    refine hK _ ?_
    clear hK K
    apply wpPlan_val
    case ho => rfl
    case hst => rfl
    case hw => rfl
    case hv => intro w' hS; go_simp; first | done | rfl
    intro K hK
    go_simp
    refine hK _ ?_
    clear hK K
    apply wpPlan_val
    case ho => rfl
    case hst => rfl
    case hw => rfl
    case hv => intro w' hS; obtain ⟨c0, c1, c2, c3, c4, f0, f1, f2, f3, f4⟩ := five_cells hS.1; obtain ⟨d0, d1, d2, d3, d4, g0, g1, g2, g3, g4⟩ := five_cells hS.2; go_simp; first | done | rfl
    intro K hK
    go_simp
    refine hK _ ?_
    clear hK K
    refine wpPlan_list rfl rfl rfl (fun K hK => ?_)
    refine wpList_step (fun K2 hK2 => ?_)
    go_simp
    refine (dots_any y.pa _ (by omega)).mono ?_; rintro e1 w4 ⟨rfl, hb4⟩
    have S4 : Hid (V5p w4 w2.heap.size x ∧ V5p w4 (w2.heap.size + 1) y) := hid ⟨V5p.new (w := w3.drew) S3.out.1 hb4, V5p.new (w := w3.drew) S3.out.2 hb4⟩
    have B4 := hid ((below_drewN B3.out 1).trans (hb4.mono B3.out.size))
    clear hb4
    go_simp
    refine hK2 _ _ ?_
    clear hK2 K2
    simp only [wpList]
    refine hK _ _ (fun _ => S4.out) ?_
    clear hK K
    apply wpPlan_val
    case ho => rfl
    case hst => rfl
    case hw => rfl
    case hv => intro w' hS; exact exec_add _ _ _ _ rfl (y.sc ++ y.au) (dots y.pa) rfl rfl (by first | omega | (simp; done) | (simp; omega))
    intro K hK
    go_simp
    refine hK _ ?_
    clear hK K
    apply wpPlan_val
    case ho => rfl
    case hst => rfl
    case hw => rfl
    case hv => intro w' hS; exact exec_add _ _ _ _ rfl (y.sc ++ (y.au ++ dots y.pa)) (y.qu) rfl rfl (by first | omega | (simp; done) | (simp; omega))
    intro K hK
    go_simp
    refine hK _ ?_
    clear hK K
    apply wpPlan_val
    case ho => rfl
    case hst => rfl
    case hw => rfl
    case hv => intro w' hS; exact exec_add _ _ _ _ rfl (y.sc ++ (y.au ++ (dots y.pa ++ y.qu))) (y.fr) rfl rfl (by first | omega | (simp; done) | (simp; omega))
    intro K hK
    go_simp
    refine hK _ ?_
    clear hK K
    apply wpPlan_val
    case ho => rfl
    case hst => rfl
    case hw => rfl
    case hv => intro w' hS; go_simp; first | done | rfl
    intro K hK
    go_simp
    refine hK _ ?_
    clear hK K
    refine wpPlan_nil ?_
    simp only [Qn]
    clear S3 B3 S4
    go_wp2_with fail
    go_ret
    refine ⟨?_, B4.out⟩
    have hR := E.out
    simp only [List.append_assoc] at hR
    rw [hR]
    try rfl
  case' pos =>
    have b0 := byes h0
    by_cases h1 : y.au = []
    case' neg =>
      have E := hid (show resolveP x y = x.sc ++ y.au ++ dots y.pa ++ y.qu ++ y.fr by unfold resolveP; rw [if_neg (fun h => h h0), if_pos h1])
      have b1 := bno h1
      clear h0 h1
      go_wp2_with fail
      have hS := two_alloc w2 x y
      unfold O5 at hS
      generalize (w2.alloc (Obj.cells #[.string (B x.sc), .string (B x.au), .string (B x.pa), .string (B x.qu), .string (B x.fr)] 26)).alloc (Obj.cells #[.string (B y.sc), .string (B y.au), .string (B y.pa), .string (B y.qu), .string (B y.fr)] 26) = w3 at hS ⊢
      have S3 := hid hS.1
      have B3 := hid (B2.out.trans (hS.2.mono B2.out.size))
      clear hS B2
      refine wp_region_plan (fun w' => V5p w' w2.heap.size x ∧ V5p w' (w2.heap.size + 1) y) (fun j => decide (j ≠ 7)) (fun _ => false)
        (.of [0, 1, 2, 3, 4, 5, 6, 9, 10, 12, 13, 7, 8, 11, 14, 15]) (by kernel_rfl) (by kernel_rfl) rfl (by kernel_rfl) (by kernel_rfl) ⟨S3.out.1, S3.out.2⟩ ?_
      apply wpPlan_val
      case ho => rfl
      case hst => rfl
      case hw => rfl
      case hv => intro w' hS; go_simp; first | done | rfl
      intro K hK
      go_simp
      refine hK _ ?_
      clear hK K
      apply wpPlan_val
      case ho => rfl
      case hst => rfl
      case hw => rfl
      case hv => intro w' hS; obtain ⟨c0, c1, c2, c3, c4, f0, f1, f2, f3, f4⟩ := five_cells hS.1; obtain ⟨d0, d1, d2, d3, d4, g0, g1, g2, g3, g4⟩ := five_cells hS.2; go_simp; first | done | rfl
      intro K hK
      go_simp
      refine hK _ ?_
      clear hK K
      apply wpPlan_val
      case ho => rfl
      case hst => rfl
      case hw => rfl
      case hv => intro w' hS; go_simp; first | done | rfl
      intro K hK
      go_simp
      refine hK _ ?_
      clear hK K
      apply wpPlan_val
      case ho => rfl
      case hst => rfl
      case hw => rfl
      case hv => intro w' hS; obtain ⟨c0, c1, c2, c3, c4, f0, f1, f2, f3, f4⟩ := five_cells hS.1; obtain ⟨d0, d1, d2, d3, d4, g0, g1, g2, g3, g4⟩ := five_cells hS.2; go_simp; first | done | rfl
      intro K hK
      go_simp
      refine hK _ ?_
      clear hK K
      apply wpPlan_val
      case ho => rfl
      case hst => rfl
      case hw => rfl
      case hv => intro w' hS; exact exec_add _ _ _ _ rfl (x.sc) (y.au) rfl rfl (by first | omega | (simp; done) | (simp; omega))
      intro K hK
      go_simp
      refine hK _ ?_
      clear hK K
      apply wpPlan_val
      case ho => rfl
      case hst => rfl
      case hw => rfl
      case hv => intro w' hS; go_simp; first | done | rfl
      intro K hK
      go_simp
      refine hK _ ?_
      clear hK K
      apply wpPlan_val
      case ho => rfl
      case hst => rfl
      case hw => rfl
      case hv => intro w' hS; obtain ⟨c0, c1, c2, c3, c4, f0, f1, f2, f3, f4⟩ := five_cells hS.1; obtain ⟨d0, d1, d2, d3, d4, g0, g1, g2, g3, g4⟩ := five_cells hS.2; go_simp; first | done | rfl
      intro K hK
      go_simp
      refine hK _ ?_
      clear hK K
      apply wpPlan_val
      case ho => rfl
      case hst => rfl
      case hw => rfl
      case hv => intro w' hS; go_simp; first | done | rfl
      intro K hK
      go_simp
      refine hK _ ?_
      clear hK K
      apply wpPlan_val
      case ho => rfl
      case hst => rfl
      case hw => rfl
      case hv => intro w' hS; obtain ⟨c0, c1, c2, c3, c4, f0, f1, f2, f3, f4⟩ := five_cells hS.1; obtain ⟨d0, d1, d2, d3, d4, g0, g1, g2, g3, g4⟩ := five_cells hS.2; go_simp; first | done | rfl
      intro K hK
      go_simp
      refine hK _ ?_
      clear hK K
      apply wpPlan_val
      case ho => rfl
      case hst => rfl
      case hw => rfl
      case hv => intro w' hS; go_simp; first | done | rfl
      intro K hK
      go_simp
      refine hK _ ?_
      clear hK K
      apply wpPlan_val
      case ho => rfl
      case hst => rfl
      case hw => rfl
      case hv => intro w' hS; obtain ⟨c0, c1, c2, c3, c4, f0, f1, f2, f3, f4⟩ := five_cells hS.1; obtain ⟨d0, d1, d2, d3, d4, g0, g1, g2, g3, g4⟩ := five_cells hS.2; go_simp; first | done | rfl
      intro K hK
      go_simp
      refine hK _ ?_
      clear hK K
      refine wpPlan_list rfl rfl rfl (fun K hK => ?_)
      refine wpList_step (fun K2 hK2 => ?_)
      go_simp
      refine (dots_any y.pa _ (by omega)).mono ?_; rintro e1 w4 ⟨rfl, hb4⟩
      have S4 : Hid (V5p w4 w2.heap.size x ∧ V5p w4 (w2.heap.size + 1) y) := hid ⟨V5p.new (w := w3.drew) S3.out.1 hb4, V5p.new (w := w3.drew) S3.out.2 hb4⟩
      have B4 := hid ((below_drewN B3.out 1).trans (hb4.mono B3.out.size))
      clear hb4
      go_simp
      refine hK2 _ _ ?_
      clear hK2 K2
      simp only [wpList]
      refine hK _ _ (fun _ => S4.out) ?_
      clear hK K
      apply wpPlan_val
      case ho => rfl
      case hst => rfl
      case hw => rfl
      case hv => intro w' hS; exact exec_add _ _ _ _ rfl (x.sc ++ y.au) (dots y.pa) rfl rfl (by first | omega | (simp; done) | (simp; omega))
      intro K hK
      go_simp
      refine hK _ ?_
      clear hK K
      apply wpPlan_val
      case ho => rfl
      case hst => rfl
      case hw => rfl
      case hv => intro w' hS; exact exec_add _ _ _ _ rfl (x.sc ++ (y.au ++ dots y.pa)) (y.qu) rfl rfl (by first | omega | (simp; done) | (simp; omega))
      intro K hK
      go_simp
      refine hK _ ?_
      clear hK K
      apply wpPlan_val
      case ho => rfl
      case hst => rfl
      case hw => rfl
      case hv => intro w' hS; exact exec_add _ _ _ _ rfl (x.sc ++ (y.au ++ (dots y.pa ++ y.qu))) (y.fr) rfl rfl (by first | omega | (simp; done) | (simp; omega))
      intro K hK
      go_simp
      refine hK _ ?_
      clear hK K
      apply wpPlan_val
      case ho => rfl
      case hst => rfl
      case hw => rfl
      case hv => intro w' hS; go_simp; first | done | rfl
      intro K hK
      go_simp
      refine hK _ ?_
      clear hK K
      refine wpPlan_nil ?_
      simp only [Qn]
      clear S3 B3 S4
      go_wp2_with fail
      go_ret
      refine ⟨?_, B4.out⟩
      have hR := E.out
      simp only [List.append_assoc] at hR
      rw [hR]
      try rfl
    case' pos =>
      have b1 := byes h1
      by_cases h2 : y.pa = []
      case' pos =>
        have b2 := byes h2
        by_cases h3 : y.qu = []
        case' pos =>
          have b3 := byes h3
          have E := hid (show resolveP x y = x.sc ++ x.au ++ x.pa ++ x.qu ++ y.fr by unfold resolveP; rw [if_neg (fun h => h h0), if_neg (fun h => h h1), if_pos h2, if_pos h3])
          clear h0 h1 h2 h3
          go_wp2_with fail
          go_ret
          have hR := E.out
          simp only [List.append_assoc] at hR
          rw [hR]
          exact ⟨rfl, B2.out.trans ((two_alloc w2 x y).2.mono B2.out.size)⟩
        case' neg =>
          have b3 := bno h3
          have E := hid (show resolveP x y = x.sc ++ x.au ++ x.pa ++ y.qu ++ y.fr by unfold resolveP; rw [if_neg (fun h => h h0), if_neg (fun h => h h1), if_pos h2, if_neg h3])
          clear h0 h1 h2 h3
          go_wp2_with fail
          go_ret
          have hR := E.out
          simp only [List.append_assoc] at hR
          rw [hR]
          exact ⟨rfl, B2.out.trans ((two_alloc w2 x y).2.mono B2.out.size)⟩
      case' neg =>
        have b2 := bno h2
        have hpos : 0 < y.pa.length := List.length_pos_iff.2 h2
        by_cases h3 : y.pa[0]? = some 47
        case' pos =>
          have hget : y.pa[0]'hpos = 47 := (List.getElem?_eq_some_iff.1 h3).2
          have E := hid (show resolveP x y = x.sc ++ x.au ++ dots y.pa ++ y.qu ++ y.fr by unfold resolveP; rw [if_neg (fun h => h h0), if_neg (fun h => h h1), if_neg h2, if_pos h3])
          clear h0 h1 h2 h3
          go_wp2_with fail
          have hS := two_alloc w2 x y
          unfold O5 at hS
          generalize (w2.alloc (Obj.cells #[.string (B x.sc), .string (B x.au), .string (B x.pa), .string (B x.qu), .string (B x.fr)] 26)).alloc (Obj.cells #[.string (B y.sc), .string (B y.au), .string (B y.pa), .string (B y.qu), .string (B y.fr)] 26) = w3 at hS ⊢
          have S3 := hid hS.1
          have B3 := hid (B2.out.trans (hS.2.mono B2.out.size))
          clear hS B2
          refine wp_region_plan (fun w' => V5p w' w2.heap.size x ∧ V5p w' (w2.heap.size + 1) y) (fun j => decide (j ≠ 7)) (fun _ => false)
            (.of [0, 1, 2, 3, 4, 5, 6, 9, 10, 12, 13, 7, 8, 11, 14, 15]) (by kernel_rfl) (by kernel_rfl) rfl (by kernel_rfl) (by kernel_rfl) ⟨S3.out.1, S3.out.2⟩ ?_
          apply wpPlan_val
          case ho => rfl
          case hst => rfl
          case hw => rfl
          case hv => intro w' hS; go_simp; first | done | rfl
          intro K hK
          go_simp
          refine hK _ ?_
          clear hK K
          apply wpPlan_val
          case ho => rfl
          case hst => rfl
          case hw => rfl
          case hv => intro w' hS; obtain ⟨c0, c1, c2, c3, c4, f0, f1, f2, f3, f4⟩ := five_cells hS.1; obtain ⟨d0, d1, d2, d3, d4, g0, g1, g2, g3, g4⟩ := five_cells hS.2; go_simp; first | done | rfl
          intro K hK
          go_simp
          refine hK _ ?_
          clear hK K
          apply wpPlan_val
          case ho => rfl
          case hst => rfl
          case hw => rfl
          case hv => intro w' hS; go_simp; first | done | rfl
          intro K hK
          go_simp
          refine hK _ ?_
          clear hK K
          apply wpPlan_val
          case ho => rfl
          case hst => rfl
          case hw => rfl
          case hv => intro w' hS; obtain ⟨c0, c1, c2, c3, c4, f0, f1, f2, f3, f4⟩ := five_cells hS.1; obtain ⟨d0, d1, d2, d3, d4, g0, g1, g2, g3, g4⟩ := five_cells hS.2; go_simp; first | done | rfl
          intro K hK
          go_simp
          refine hK _ ?_
          clear hK K
          apply wpPlan_val
          case ho => rfl
          case hst => rfl
          case hw => rfl
          case hv => intro w' hS; exact exec_add _ _ _ _ rfl (x.sc) (x.au) rfl rfl (by first | omega | (simp; done) | (simp; omega))
          intro K hK
          go_simp
          refine hK _ ?_
          clear hK K
          apply wpPlan_val
          case ho => rfl
          case hst => rfl
          case hw => rfl
          case hv => intro w' hS; go_simp; first | done | rfl
          intro K hK
          go_simp
          refine hK _ ?_
          clear hK K
          apply wpPlan_val
          case ho => rfl
          case hst => rfl
          case hw => rfl
          case hv => intro w' hS; obtain ⟨c0, c1, c2, c3, c4, f0, f1, f2, f3, f4⟩ := five_cells hS.1; obtain ⟨d0, d1, d2, d3, d4, g0, g1, g2, g3, g4⟩ := five_cells hS.2; go_simp; first | done | rfl
          intro K hK
          go_simp
          refine hK _ ?_
          clear hK K
          apply wpPlan_val
          case ho => rfl
          case hst => rfl
          case hw => rfl
          case hv => intro w' hS; go_simp; first | done | rfl
          intro K hK
          go_simp
          refine hK _ ?_
          clear hK K
          apply wpPlan_val
          case ho => rfl
          case hst => rfl
          case hw => rfl
          case hv => intro w' hS; obtain ⟨c0, c1, c2, c3, c4, f0, f1, f2, f3, f4⟩ := five_cells hS.1; obtain ⟨d0, d1, d2, d3, d4, g0, g1, g2, g3, g4⟩ := five_cells hS.2; go_simp; first | done | rfl
          intro K hK
          go_simp
          refine hK _ ?_
          clear hK K
          apply wpPlan_val
          case ho => rfl
          case hst => rfl
          case hw => rfl
          case hv => intro w' hS; go_simp; first | done | rfl
          intro K hK
          go_simp
          refine hK _ ?_
          clear hK K
          apply wpPlan_val
          case ho => rfl
          case hst => rfl
          case hw => rfl
          case hv => intro w' hS; obtain ⟨c0, c1, c2, c3, c4, f0, f1, f2, f3, f4⟩ := five_cells hS.1; obtain ⟨d0, d1, d2, d3, d4, g0, g1, g2, g3, g4⟩ := five_cells hS.2; go_simp; first | done | rfl
          intro K hK
          go_simp
          refine hK _ ?_
          clear hK K
          refine wpPlan_list rfl rfl rfl (fun K hK => ?_)
          refine wpList_step (fun K2 hK2 => ?_)
          go_simp
          refine (dots_any y.pa _ (by omega)).mono ?_; rintro e1 w4 ⟨rfl, hb4⟩
          have S4 : Hid (V5p w4 w2.heap.size x ∧ V5p w4 (w2.heap.size + 1) y) := hid ⟨V5p.new (w := w3.drew) S3.out.1 hb4, V5p.new (w := w3.drew) S3.out.2 hb4⟩
          have B4 := hid ((below_drewN B3.out 1).trans (hb4.mono B3.out.size))
          clear hb4
          go_simp
          refine hK2 _ _ ?_
          clear hK2 K2
          simp only [wpList]
          refine hK _ _ (fun _ => S4.out) ?_
          clear hK K
          apply wpPlan_val
          case ho => rfl
          case hst => rfl
          case hw => rfl
          case hv => intro w' hS; exact exec_add _ _ _ _ rfl (x.sc ++ x.au) (dots y.pa) rfl rfl (by first | omega | (simp; done) | (simp; omega))
          intro K hK
          go_simp
          refine hK _ ?_
          clear hK K
          apply wpPlan_val
          case ho => rfl
          case hst => rfl
          case hw => rfl
          case hv => intro w' hS; exact exec_add _ _ _ _ rfl (x.sc ++ (x.au ++ dots y.pa)) (y.qu) rfl rfl (by first | omega | (simp; done) | (simp; omega))
          intro K hK
          go_simp
          refine hK _ ?_
          clear hK K
          apply wpPlan_val
          case ho => rfl
          case hst => rfl
          case hw => rfl
          case hv => intro w' hS; exact exec_add _ _ _ _ rfl (x.sc ++ (x.au ++ (dots y.pa ++ y.qu))) (y.fr) rfl rfl (by first | omega | (simp; done) | (simp; omega))
          intro K hK
          go_simp
          refine hK _ ?_
          clear hK K
          apply wpPlan_val
          case ho => rfl
          case hst => rfl
          case hw => rfl
          case hv => intro w' hS; go_simp; first | done | rfl
          intro K hK
          go_simp
          refine hK _ ?_
          clear hK K
          refine wpPlan_nil ?_
          simp only [Qn]
          clear S3 B3 S4
          go_wp2_with fail
          go_ret
          refine ⟨?_, B4.out⟩
          have hR := E.out
          simp only [List.append_assoc] at hR
          rw [hR]
          try rfl
        case' neg =>
          have E := hid (show resolveP x y = x.sc ++ x.au ++ dots (beside x y.pa) ++ y.qu ++ y.fr by unfold resolveP; rw [if_neg (fun h => h h0), if_neg (fun h => h h1), if_neg h2, if_neg h3])
          obtain ⟨c, hc⟩ : ∃ c, y.pa[0]'hpos = c := ⟨_, rfl⟩
          have hne : ¬ ((c.toNat : Int) = 47) := fun h => h3 (by rw [List.getElem?_eq_getElem hpos, hc]; exact congrArg some (UInt8.toNat_inj.1 (by show c.toNat = 47; omega)))
          clear h0 h1 h2 h3
          go_wp2_with fail
          refine (cut_any x.pa _ (by omega)).mono ?_; rintro e1 wx ⟨rfl, hw⟩
          subst hw
          have hbk := back_le x.pa
          go_wp2_with fail
          refine (in_any 47 x.pa _ (by omega)).mono ?_; rintro e1 wx ⟨rfl, hw⟩
          subst hw
          have hbe : (beside x y.pa).length ≤ x.pa.length + y.pa.length + 1 := by
            unfold beside
            split
            · simp only [List.length_cons]; omega
            · rw [List.length_append, List.length_take]; omega
          have hdb := dots_len (beside x y.pa)
          have E9 := E.out
          clear E
          by_cases h4 : x.pa = []
          · have b4 := byes h4
            have hcc : x.pa.contains 47 = false := by rw [h4]; rfl
            rw [hcc]
            by_cases h5 : x.au = []
            · have HB : Hid (y.pa = beside x y.pa) := hid (by unfold beside; rw [if_neg (fun h => h.2 h5), h4]; rfl)
              have b5 := byes h5
              clear h4 h5 hcc
              have hN7 : (y.pa).length ≤ 2002 := by first | omega | (simp; omega)
              have hdn := dots_len (y.pa)
              rw [← HB.out] at E9
              have E := hid E9
              clear E9
              go_wp2_with fail
              have hS := two_alloc w2 x y
              unfold O5 at hS
              generalize (w2.alloc (Obj.cells #[.string (B x.sc), .string (B x.au), .string (B x.pa), .string (B x.qu), .string (B x.fr)] 26)).alloc (Obj.cells #[.string (B y.sc), .string (B y.au), .string (B y.pa), .string (B y.qu), .string (B y.fr)] 26) = w3 at hS ⊢
              have S3 := hid hS.1
              have B3 := hid (B2.out.trans (hS.2.mono B2.out.size))
              clear hS B2
              refine wp_region_plan (fun w' => V5p w' w2.heap.size x ∧ V5p w' (w2.heap.size + 1) y) (fun j => decide (j ≠ 9)) (fun _ => false)
                (.of [0, 1, 2, 3, 4, 5, 6, 7, 8, 11, 12, 14, 15, 9, 10, 13, 16, 17]) (by kernel_rfl) (by kernel_rfl) rfl (by kernel_rfl) (by kernel_rfl) ⟨S3.out.1, S3.out.2⟩ ?_
              apply wpPlan_val
              case ho => rfl
              case hst => rfl
              case hw => rfl
              case hv => intro w' hS; go_simp; first | done | rfl
              intro K hK
              go_simp
              refine hK _ ?_
              clear hK K
              apply wpPlan_val
              case ho => rfl
              case hst => rfl
              case hw => rfl
              case hv => intro w' hS; obtain ⟨c0, c1, c2, c3, c4, f0, f1, f2, f3, f4⟩ := five_cells hS.1; obtain ⟨d0, d1, d2, d3, d4, g0, g1, g2, g3, g4⟩ := five_cells hS.2; go_simp; first | done | rfl
              intro K hK
              go_simp
              refine hK _ ?_
              clear hK K
              apply wpPlan_val
              case ho => rfl
              case hst => rfl
              case hw => rfl
              case hv => intro w' hS; go_simp; first | done | rfl
              intro K hK
              go_simp
              refine hK _ ?_
              clear hK K
              apply wpPlan_val
              case ho => rfl
              case hst => rfl
              case hw => rfl
              case hv => intro w' hS; obtain ⟨c0, c1, c2, c3, c4, f0, f1, f2, f3, f4⟩ := five_cells hS.1; obtain ⟨d0, d1, d2, d3, d4, g0, g1, g2, g3, g4⟩ := five_cells hS.2; go_simp; first | done | rfl
              intro K hK
              go_simp
              refine hK _ ?_
              clear hK K
              apply wpPlan_val
              case ho => rfl
              case hst => rfl
              case hw => rfl
              case hv => intro w' hS; exact exec_add _ _ _ _ rfl (x.sc) (x.au) rfl rfl (by first | omega | (simp; done) | (simp; omega))
              intro K hK
              go_simp
              refine hK _ ?_
              clear hK K
              apply wpPlan_val
              case ho => rfl
              case hst => rfl
              case hw => rfl
              case hv => intro w' hS; go_simp; first | done | rfl
              intro K hK
              go_simp
              refine hK _ ?_
              clear hK K
              apply wpPlan_val
              case ho => rfl
              case hst => rfl
              case hw => rfl
              case hv => intro w' hS; go_simp; first | done | rfl
              intro K hK
              go_simp
              refine hK _ ?_
              clear hK K
              apply wpPlan_val
              case ho => rfl
              case hst => rfl
              case hw => rfl
              case hv => intro w' hS; obtain ⟨c0, c1, c2, c3, c4, f0, f1, f2, f3, f4⟩ := five_cells hS.1; obtain ⟨d0, d1, d2, d3, d4, g0, g1, g2, g3, g4⟩ := five_cells hS.2; go_simp; first | done | rfl
              intro K hK
              go_simp
              refine hK _ ?_
              clear hK K
              apply wpPlan_val
              case ho => rfl
              case hst => rfl
              case hw => rfl
              case hv => intro w' hS; exact exec_add _ _ _ _ rfl ([]) (y.pa) rfl rfl (by first | omega | (simp; done) | (simp; omega))
              intro K hK
              go_simp
              refine hK _ ?_
              clear hK K
              apply wpPlan_val
              case ho => rfl
              case hst => rfl
              case hw => rfl
              case hv => intro w' hS; go_simp; first | done | rfl
              intro K hK
              go_simp
              refine hK _ ?_
              clear hK K
              apply wpPlan_val
              case ho => rfl
              case hst => rfl
              case hw => rfl
              case hv => intro w' hS; obtain ⟨c0, c1, c2, c3, c4, f0, f1, f2, f3, f4⟩ := five_cells hS.1; obtain ⟨d0, d1, d2, d3, d4, g0, g1, g2, g3, g4⟩ := five_cells hS.2; go_simp; first | done | rfl
              intro K hK
              go_simp
              refine hK _ ?_
              clear hK K
              apply wpPlan_val
              case ho => rfl
              case hst => rfl
              case hw => rfl
              case hv => intro w' hS; go_simp; first | done | rfl
              intro K hK
              go_simp
              refine hK _ ?_
              clear hK K
              apply wpPlan_val
              case ho => rfl
              case hst => rfl
              case hw => rfl
              case hv => intro w' hS; obtain ⟨c0, c1, c2, c3, c4, f0, f1, f2, f3, f4⟩ := five_cells hS.1; obtain ⟨d0, d1, d2, d3, d4, g0, g1, g2, g3, g4⟩ := five_cells hS.2; go_simp; first | done | rfl
              intro K hK
              go_simp
              refine hK _ ?_
              clear hK K
              refine wpPlan_list rfl rfl rfl (fun K hK => ?_)
              refine wpList_step (fun K2 hK2 => ?_)
              go_simp
              refine (dots_any (y.pa) _ (by omega)).mono ?_; rintro e1 w4 ⟨rfl, hb4⟩
              have S4 : Hid (V5p w4 w2.heap.size x ∧ V5p w4 (w2.heap.size + 1) y) := hid ⟨V5p.new (w := w3.drew) S3.out.1 hb4, V5p.new (w := w3.drew) S3.out.2 hb4⟩
              have B4 := hid ((below_drewN B3.out 1).trans (hb4.mono B3.out.size))
              clear hb4
              go_simp
              refine hK2 _ _ ?_
              clear hK2 K2
              simp only [wpList]
              refine hK _ _ (fun _ => S4.out) ?_
              clear hK K
              apply wpPlan_val
              case ho => rfl
              case hst => rfl
              case hw => rfl
              case hv => intro w' hS; exact exec_add _ _ _ _ rfl (x.sc ++ x.au) (dots (y.pa)) rfl rfl (by first | omega | (simp; done) | (simp; omega))
              intro K hK
              go_simp
              refine hK _ ?_
              clear hK K
              apply wpPlan_val
              case ho => rfl
              case hst => rfl
              case hw => rfl
              case hv => intro w' hS; exact exec_add _ _ _ _ rfl (x.sc ++ (x.au ++ dots (y.pa))) (y.qu) rfl rfl (by first | omega | (simp; done) | (simp; omega))
              intro K hK
              go_simp
              refine hK _ ?_
              clear hK K
              apply wpPlan_val
              case ho => rfl
              case hst => rfl
              case hw => rfl
              case hv => intro w' hS; exact exec_add _ _ _ _ rfl (x.sc ++ (x.au ++ (dots (y.pa) ++ y.qu))) (y.fr) rfl rfl (by first | omega | (simp; done) | (simp; omega))
              intro K hK
              go_simp
              refine hK _ ?_
              clear hK K
              apply wpPlan_val
              case ho => rfl
              case hst => rfl
              case hw => rfl
              case hv => intro w' hS; go_simp; first | done | rfl
              intro K hK
              go_simp
              refine hK _ ?_
              clear hK K
              refine wpPlan_nil ?_
              simp only [Qn]
              clear S3 B3 S4
              go_wp2_with fail
              go_ret
              refine ⟨?_, B4.out⟩
              have hR := E.out
              simp only [List.append_assoc] at hR
              rw [hR]
              try rfl
            · have HB : Hid (47 :: y.pa = beside x y.pa) := hid (by unfold beside; rw [if_pos ⟨h4, h5⟩])
              have b5 := bno h5
              clear h4 h5 hcc
              have hN7 : (47 :: y.pa).length ≤ 2002 := by first | omega | (simp; omega)
              have hdn := dots_len (47 :: y.pa)
              rw [← HB.out] at E9
              have E := hid E9
              clear E9
              go_wp2_with fail
              have hS := two_alloc w2 x y
              unfold O5 at hS
              generalize (w2.alloc (Obj.cells #[.string (B x.sc), .string (B x.au), .string (B x.pa), .string (B x.qu), .string (B x.fr)] 26)).alloc (Obj.cells #[.string (B y.sc), .string (B y.au), .string (B y.pa), .string (B y.qu), .string (B y.fr)] 26) = w3 at hS ⊢
              have S3 := hid hS.1
              have B3 := hid (B2.out.trans (hS.2.mono B2.out.size))
              clear hS B2
              refine wp_region_plan (fun w' => V5p w' w2.heap.size x ∧ V5p w' (w2.heap.size + 1) y) (fun j => decide (j ≠ 9)) (fun _ => false)
                (.of [0, 1, 2, 3, 4, 5, 6, 7, 8, 11, 12, 14, 15, 9, 10, 13, 16, 17]) (by kernel_rfl) (by kernel_rfl) rfl (by kernel_rfl) (by kernel_rfl) ⟨S3.out.1, S3.out.2⟩ ?_
              apply wpPlan_val
              case ho => rfl
              case hst => rfl
              case hw => rfl
              case hv => intro w' hS; go_simp; first | done | rfl
              intro K hK
              go_simp
              refine hK _ ?_
              clear hK K
              apply wpPlan_val
              case ho => rfl
              case hst => rfl
              case hw => rfl
              case hv => intro w' hS; obtain ⟨c0, c1, c2, c3, c4, f0, f1, f2, f3, f4⟩ := five_cells hS.1; obtain ⟨d0, d1, d2, d3, d4, g0, g1, g2, g3, g4⟩ := five_cells hS.2; go_simp; first | done | rfl
              intro K hK
              go_simp
              refine hK _ ?_
              clear hK K
              apply wpPlan_val
              case ho => rfl
              case hst => rfl
              case hw => rfl
              case hv => intro w' hS; go_simp; first | done | rfl
              intro K hK
              go_simp
              refine hK _ ?_
              clear hK K
              apply wpPlan_val
              case ho => rfl
              case hst => rfl
              case hw => rfl
              case hv => intro w' hS; obtain ⟨c0, c1, c2, c3, c4, f0, f1, f2, f3, f4⟩ := five_cells hS.1; obtain ⟨d0, d1, d2, d3, d4, g0, g1, g2, g3, g4⟩ := five_cells hS.2; go_simp; first | done | rfl
              intro K hK
              go_simp
              refine hK _ ?_
              clear hK K
              apply wpPlan_val
              case ho => rfl
              case hst => rfl
              case hw => rfl
              case hv => intro w' hS; exact exec_add _ _ _ _ rfl (x.sc) (x.au) rfl rfl (by first | omega | (simp; done) | (simp; omega))
              intro K hK
              go_simp
              refine hK _ ?_
              clear hK K
              apply wpPlan_val
              case ho => rfl
              case hst => rfl
              case hw => rfl
              case hv => intro w' hS; go_simp; first | done | rfl
              intro K hK
              go_simp
              refine hK _ ?_
              clear hK K
              apply wpPlan_val
              case ho => rfl
              case hst => rfl
              case hw => rfl
              case hv => intro w' hS; go_simp; first | done | rfl
              intro K hK
              go_simp
              refine hK _ ?_
              clear hK K
              apply wpPlan_val
              case ho => rfl
              case hst => rfl
              case hw => rfl
              case hv => intro w' hS; obtain ⟨c0, c1, c2, c3, c4, f0, f1, f2, f3, f4⟩ := five_cells hS.1; obtain ⟨d0, d1, d2, d3, d4, g0, g1, g2, g3, g4⟩ := five_cells hS.2; go_simp; first | done | rfl
              intro K hK
              go_simp
              refine hK _ ?_
              clear hK K
              apply wpPlan_val
              case ho => rfl
              case hst => rfl
              case hw => rfl
              case hv => intro w' hS; exact exec_add _ _ _ _ rfl ([47]) (y.pa) rfl rfl (by first | omega | (simp; done) | (simp; omega))
              intro K hK
              go_simp
              refine hK _ ?_
              clear hK K
              apply wpPlan_val
              case ho => rfl
              case hst => rfl
              case hw => rfl
              case hv => intro w' hS; go_simp; first | done | rfl
              intro K hK
              go_simp
              refine hK _ ?_
              clear hK K
              apply wpPlan_val
              case ho => rfl
              case hst => rfl
              case hw => rfl
              case hv => intro w' hS; obtain ⟨c0, c1, c2, c3, c4, f0, f1, f2, f3, f4⟩ := five_cells hS.1; obtain ⟨d0, d1, d2, d3, d4, g0, g1, g2, g3, g4⟩ := five_cells hS.2; go_simp; first | done | rfl
              intro K hK
              go_simp
              refine hK _ ?_
              clear hK K
              apply wpPlan_val
              case ho => rfl
              case hst => rfl
              case hw => rfl
              case hv => intro w' hS; go_simp; first | done | rfl
              intro K hK
              go_simp
              refine hK _ ?_
              clear hK K
              apply wpPlan_val
              case ho => rfl
              case hst => rfl
              case hw => rfl
              case hv => intro w' hS; obtain ⟨c0, c1, c2, c3, c4, f0, f1, f2, f3, f4⟩ := five_cells hS.1; obtain ⟨d0, d1, d2, d3, d4, g0, g1, g2, g3, g4⟩ := five_cells hS.2; go_simp; first | done | rfl
              intro K hK
              go_simp
              refine hK _ ?_
              clear hK K
              refine wpPlan_list rfl rfl rfl (fun K hK => ?_)
              refine wpList_step (fun K2 hK2 => ?_)
              go_simp
              refine (dots_any (47 :: y.pa) _ (by omega)).mono ?_; rintro e1 w4 ⟨rfl, hb4⟩
              have S4 : Hid (V5p w4 w2.heap.size x ∧ V5p w4 (w2.heap.size + 1) y) := hid ⟨V5p.new (w := w3.drew) S3.out.1 hb4, V5p.new (w := w3.drew) S3.out.2 hb4⟩
              have B4 := hid ((below_drewN B3.out 1).trans (hb4.mono B3.out.size))
              clear hb4
              go_simp
              refine hK2 _ _ ?_
              clear hK2 K2
              simp only [wpList]
              refine hK _ _ (fun _ => S4.out) ?_
              clear hK K
              apply wpPlan_val
              case ho => rfl
              case hst => rfl
              case hw => rfl
              case hv => intro w' hS; exact exec_add _ _ _ _ rfl (x.sc ++ x.au) (dots (47 :: y.pa)) rfl rfl (by first | omega | (simp; done) | (simp; omega))
              intro K hK
              go_simp
              refine hK _ ?_
              clear hK K
              apply wpPlan_val
              case ho => rfl
              case hst => rfl
              case hw => rfl
              case hv => intro w' hS; exact exec_add _ _ _ _ rfl (x.sc ++ (x.au ++ dots (47 :: y.pa))) (y.qu) rfl rfl (by first | omega | (simp; done) | (simp; omega))
              intro K hK
              go_simp
              refine hK _ ?_
              clear hK K
              apply wpPlan_val
              case ho => rfl
              case hst => rfl
              case hw => rfl
              case hv => intro w' hS; exact exec_add _ _ _ _ rfl (x.sc ++ (x.au ++ (dots (47 :: y.pa) ++ y.qu))) (y.fr) rfl rfl (by first | omega | (simp; done) | (simp; omega))
              intro K hK
              go_simp
              refine hK _ ?_
              clear hK K
              apply wpPlan_val
              case ho => rfl
              case hst => rfl
              case hw => rfl
              case hv => intro w' hS; go_simp; first | done | rfl
              intro K hK
              go_simp
              refine hK _ ?_
              clear hK K
              refine wpPlan_nil ?_
              simp only [Qn]
              clear S3 B3 S4
              go_wp2_with fail
              go_ret
              refine ⟨?_, B4.out⟩
              have hR := E.out
              simp only [List.append_assoc] at hR
              rw [hR]
              try rfl
          · have b4 := bno h4
            rcases Bool.eq_false_or_eq_true (x.pa.contains 47) with h5 | h5
            · have HB : Hid (back x.pa ++ 47 :: y.pa = beside x y.pa) := hid (by unfold beside; rw [if_neg (fun h => h4 h.1), last_yes h5, List.append_assoc]; rfl)
              rw [h5]
              clear h4 h5
              by_cases h6 : x.au = []
              · have b6 := byes h6
                clear h6
                have hN7 : (back x.pa ++ 47 :: y.pa).length ≤ 2002 := by first | omega | (simp; omega)
                have hdn := dots_len (back x.pa ++ 47 :: y.pa)
                rw [← HB.out] at E9
                have E := hid E9
                clear E9
                go_wp2_with fail
                have hS := two_alloc w2 x y
                unfold O5 at hS
                generalize (w2.alloc (Obj.cells #[.string (B x.sc), .string (B x.au), .string (B x.pa), .string (B x.qu), .string (B x.fr)] 26)).alloc (Obj.cells #[.string (B y.sc), .string (B y.au), .string (B y.pa), .string (B y.qu), .string (B y.fr)] 26) = w3 at hS ⊢
                have S3 := hid hS.1
                have B3 := hid (B2.out.trans (hS.2.mono B2.out.size))
                clear hS B2
                refine wp_region_plan (fun w' => V5p w' w2.heap.size x ∧ V5p w' (w2.heap.size + 1) y) (fun j => decide (j ≠ 9)) (fun _ => false)
                  (.of [0, 1, 2, 3, 4, 5, 6, 7, 8, 11, 12, 14, 15, 9, 10, 13, 16, 17]) (by kernel_rfl) (by kernel_rfl) rfl (by kernel_rfl) (by kernel_rfl) ⟨S3.out.1, S3.out.2⟩ ?_
                apply wpPlan_val
                case ho => rfl
                case hst => rfl
                case hw => rfl
                case hv => intro w' hS; go_simp; first | done | rfl
                intro K hK
                go_simp
                refine hK _ ?_
                clear hK K
                apply wpPlan_val
                case ho => rfl
                case hst => rfl
                case hw => rfl
                case hv => intro w' hS; obtain ⟨c0, c1, c2, c3, c4, f0, f1, f2, f3, f4⟩ := five_cells hS.1; obtain ⟨d0, d1, d2, d3, d4, g0, g1, g2, g3, g4⟩ := five_cells hS.2; go_simp; first | done | rfl
                intro K hK
                go_simp
                refine hK _ ?_
                clear hK K
                apply wpPlan_val
                case ho => rfl
                case hst => rfl
                case hw => rfl
                case hv => intro w' hS; go_simp; first | done | rfl
                intro K hK
                go_simp
                refine hK _ ?_
                clear hK K
                apply wpPlan_val
                case ho => rfl
                case hst => rfl
                case hw => rfl
                case hv => intro w' hS; obtain ⟨c0, c1, c2, c3, c4, f0, f1, f2, f3, f4⟩ := five_cells hS.1; obtain ⟨d0, d1, d2, d3, d4, g0, g1, g2, g3, g4⟩ := five_cells hS.2; go_simp; first | done | rfl
                intro K hK
                go_simp
                refine hK _ ?_
                clear hK K
                apply wpPlan_val
                case ho => rfl
                case hst => rfl
                case hw => rfl
                case hv => intro w' hS; exact exec_add _ _ _ _ rfl (x.sc) (x.au) rfl rfl (by first | omega | (simp; done) | (simp; omega))
                intro K hK
                go_simp
                refine hK _ ?_
                clear hK K
                apply wpPlan_val
                case ho => rfl
                case hst => rfl
                case hw => rfl
                case hv => intro w' hS; go_simp; first | done | rfl
                intro K hK
                go_simp
                refine hK _ ?_
                clear hK K
                apply wpPlan_val
                case ho => rfl
                case hst => rfl
                case hw => rfl
                case hv => intro w' hS; go_simp; first | done | rfl
                intro K hK
                go_simp
                refine hK _ ?_
                clear hK K
                apply wpPlan_val
                case ho => rfl
                case hst => rfl
                case hw => rfl
                case hv => intro w' hS; obtain ⟨c0, c1, c2, c3, c4, f0, f1, f2, f3, f4⟩ := five_cells hS.1; obtain ⟨d0, d1, d2, d3, d4, g0, g1, g2, g3, g4⟩ := five_cells hS.2; go_simp; first | done | rfl
                intro K hK
                go_simp
                refine hK _ ?_
                clear hK K
                apply wpPlan_val
                case ho => rfl
                case hst => rfl
                case hw => rfl
                case hv => intro w' hS; exact exec_add _ _ _ _ rfl (back x.pa ++ [47]) (y.pa) rfl rfl (by first | omega | (simp; done) | (simp; omega))
                intro K hK
                go_simp
                refine hK _ ?_
                clear hK K
                apply wpPlan_val
                case ho => rfl
                case hst => rfl
                case hw => rfl
                case hv => intro w' hS; go_simp; first | done | rfl
                intro K hK
                go_simp
                refine hK _ ?_
                clear hK K
                apply wpPlan_val
                case ho => rfl
                case hst => rfl
                case hw => rfl
                case hv => intro w' hS; obtain ⟨c0, c1, c2, c3, c4, f0, f1, f2, f3, f4⟩ := five_cells hS.1; obtain ⟨d0, d1, d2, d3, d4, g0, g1, g2, g3, g4⟩ := five_cells hS.2; go_simp; first | done | rfl
                intro K hK
                go_simp
                refine hK _ ?_
                clear hK K
                apply wpPlan_val
                case ho => rfl
                case hst => rfl
                case hw => rfl
                case hv => intro w' hS; go_simp; first | done | rfl
                intro K hK
                go_simp
                refine hK _ ?_
                clear hK K
                apply wpPlan_val
                case ho => rfl
                case hst => rfl
                case hw => rfl
                case hv => intro w' hS; obtain ⟨c0, c1, c2, c3, c4, f0, f1, f2, f3, f4⟩ := five_cells hS.1; obtain ⟨d0, d1, d2, d3, d4, g0, g1, g2, g3, g4⟩ := five_cells hS.2; go_simp; first | done | rfl
                intro K hK
                go_simp
                refine hK _ ?_
                clear hK K
                refine wpPlan_list rfl rfl rfl (fun K hK => ?_)
                refine wpList_step (fun K2 hK2 => ?_)
                go_simp
                refine (dots_any (back x.pa ++ 47 :: y.pa) _ (by omega)).mono ?_; rintro e1 w4 ⟨rfl, hb4⟩
                have S4 : Hid (V5p w4 w2.heap.size x ∧ V5p w4 (w2.heap.size + 1) y) := hid ⟨V5p.new (w := w3.drew) S3.out.1 hb4, V5p.new (w := w3.drew) S3.out.2 hb4⟩
                have B4 := hid ((below_drewN B3.out 1).trans (hb4.mono B3.out.size))
                clear hb4
                go_simp
                refine hK2 _ _ ?_
                clear hK2 K2
                simp only [wpList]
                refine hK _ _ (fun _ => S4.out) ?_
                clear hK K
                apply wpPlan_val
                case ho => rfl
                case hst => rfl
                case hw => rfl
                case hv => intro w' hS; exact exec_add _ _ _ _ rfl (x.sc ++ x.au) (dots (back x.pa ++ 47 :: y.pa)) rfl rfl (by first | omega | (simp; done) | (simp; omega))
                intro K hK
                go_simp
                refine hK _ ?_
                clear hK K
                apply wpPlan_val
                case ho => rfl
                case hst => rfl
                case hw => rfl
                case hv => intro w' hS; exact exec_add _ _ _ _ rfl (x.sc ++ (x.au ++ dots (back x.pa ++ 47 :: y.pa))) (y.qu) rfl rfl (by first | omega | (simp; done) | (simp; omega))
                intro K hK
                go_simp
                refine hK _ ?_
                clear hK K
                apply wpPlan_val
                case ho => rfl
                case hst => rfl
                case hw => rfl
                case hv => intro w' hS; exact exec_add _ _ _ _ rfl (x.sc ++ (x.au ++ (dots (back x.pa ++ 47 :: y.pa) ++ y.qu))) (y.fr) rfl rfl (by first | omega | (simp; done) | (simp; omega))
                intro K hK
                go_simp
                refine hK _ ?_
                clear hK K
                apply wpPlan_val
                case ho => rfl
                case hst => rfl
                case hw => rfl
                case hv => intro w' hS; go_simp; first | done | rfl
                intro K hK
                go_simp
                refine hK _ ?_
                clear hK K
                refine wpPlan_nil ?_
                simp only [Qn]
                clear S3 B3 S4
                go_wp2_with fail
                go_ret
                refine ⟨?_, B4.out⟩
                have hR := E.out
                simp only [List.append_assoc] at hR
                rw [hR]
                try rfl
              · have b6 := bno h6
                clear h6
                have hN7 : (back x.pa ++ 47 :: y.pa).length ≤ 2002 := by first | omega | (simp; omega)
                have hdn := dots_len (back x.pa ++ 47 :: y.pa)
                rw [← HB.out] at E9
                have E := hid E9
                clear E9
                go_wp2_with fail
                have hS := two_alloc w2 x y
                unfold O5 at hS
                generalize (w2.alloc (Obj.cells #[.string (B x.sc), .string (B x.au), .string (B x.pa), .string (B x.qu), .string (B x.fr)] 26)).alloc (Obj.cells #[.string (B y.sc), .string (B y.au), .string (B y.pa), .string (B y.qu), .string (B y.fr)] 26) = w3 at hS ⊢
                have S3 := hid hS.1
                have B3 := hid (B2.out.trans (hS.2.mono B2.out.size))
                clear hS B2
                refine wp_region_plan (fun w' => V5p w' w2.heap.size x ∧ V5p w' (w2.heap.size + 1) y) (fun j => decide (j ≠ 9)) (fun _ => false)
                  (.of [0, 1, 2, 3, 4, 5, 6, 7, 8, 11, 12, 14, 15, 9, 10, 13, 16, 17]) (by kernel_rfl) (by kernel_rfl) rfl (by kernel_rfl) (by kernel_rfl) ⟨S3.out.1, S3.out.2⟩ ?_
                apply wpPlan_val
                case ho => rfl
                case hst => rfl
                case hw => rfl
                case hv => intro w' hS; go_simp; first | done | rfl
                intro K hK
                go_simp
                refine hK _ ?_
                clear hK K
                apply wpPlan_val
                case ho => rfl
                case hst => rfl
                case hw => rfl
                case hv => intro w' hS; obtain ⟨c0, c1, c2, c3, c4, f0, f1, f2, f3, f4⟩ := five_cells hS.1; obtain ⟨d0, d1, d2, d3, d4, g0, g1, g2, g3, g4⟩ := five_cells hS.2; go_simp; first | done | rfl
                intro K hK
                go_simp
                refine hK _ ?_
                clear hK K
                apply wpPlan_val
                case ho => rfl
                case hst => rfl
                case hw => rfl
                case hv => intro w' hS; go_simp; first | done | rfl
                intro K hK
                go_simp
                refine hK _ ?_
                clear hK K
                apply wpPlan_val
                case ho => rfl
                case hst => rfl
                case hw => rfl
                case hv => intro w' hS; obtain ⟨c0, c1, c2, c3, c4, f0, f1, f2, f3, f4⟩ := five_cells hS.1; obtain ⟨d0, d1, d2, d3, d4, g0, g1, g2, g3, g4⟩ := five_cells hS.2; go_simp; first | done | rfl
                intro K hK
                go_simp
                refine hK _ ?_
                clear hK K
                apply wpPlan_val
                case ho => rfl
                case hst => rfl
                case hw => rfl
                case hv => intro w' hS; exact exec_add _ _ _ _ rfl (x.sc) (x.au) rfl rfl (by first | omega | (simp; done) | (simp; omega))
                intro K hK
                go_simp
                refine hK _ ?_
                clear hK K
                apply wpPlan_val
                case ho => rfl
                case hst => rfl
                case hw => rfl
                case hv => intro w' hS; go_simp; first | done | rfl
                intro K hK
                go_simp
                refine hK _ ?_
                clear hK K
                apply wpPlan_val
                case ho => rfl
                case hst => rfl
                case hw => rfl
                case hv => intro w' hS; go_simp; first | done | rfl
                intro K hK
                go_simp
                refine hK _ ?_
                clear hK K
                apply wpPlan_val
                case ho => rfl
                case hst => rfl
                case hw => rfl
                case hv => intro w' hS; obtain ⟨c0, c1, c2, c3, c4, f0, f1, f2, f3, f4⟩ := five_cells hS.1; obtain ⟨d0, d1, d2, d3, d4, g0, g1, g2, g3, g4⟩ := five_cells hS.2; go_simp; first | done | rfl
                intro K hK
                go_simp
                refine hK _ ?_
                clear hK K
                apply wpPlan_val
                case ho => rfl
                case hst => rfl
                case hw => rfl
                case hv => intro w' hS; exact exec_add _ _ _ _ rfl (back x.pa ++ [47]) (y.pa) rfl rfl (by first | omega | (simp; done) | (simp; omega))
                intro K hK
                go_simp
                refine hK _ ?_
                clear hK K
                apply wpPlan_val
                case ho => rfl
                case hst => rfl
                case hw => rfl
                case hv => intro w' hS; go_simp; first | done | rfl
                intro K hK
                go_simp
                refine hK _ ?_
                clear hK K
                apply wpPlan_val
                case ho => rfl
                case hst => rfl
                case hw => rfl
                case hv => intro w' hS; obtain ⟨c0, c1, c2, c3, c4, f0, f1, f2, f3, f4⟩ := five_cells hS.1; obtain ⟨d0, d1, d2, d3, d4, g0, g1, g2, g3, g4⟩ := five_cells hS.2; go_simp; first | done | rfl
                intro K hK
                go_simp
                refine hK _ ?_
                clear hK K
                apply wpPlan_val
                case ho => rfl
                case hst => rfl
                case hw => rfl
                case hv => intro w' hS; go_simp; first | done | rfl
                intro K hK
                go_simp
                refine hK _ ?_
                clear hK K
                apply wpPlan_val
                case ho => rfl
                case hst => rfl
                case hw => rfl
                case hv => intro w' hS; obtain ⟨c0, c1, c2, c3, c4, f0, f1, f2, f3, f4⟩ := five_cells hS.1; obtain ⟨d0, d1, d2, d3, d4, g0, g1, g2, g3, g4⟩ := five_cells hS.2; go_simp; first | done | rfl
                intro K hK
                go_simp
                refine hK _ ?_
                clear hK K
                refine wpPlan_list rfl rfl rfl (fun K hK => ?_)
                refine wpList_step (fun K2 hK2 => ?_)
                go_simp
                refine (dots_any (back x.pa ++ 47 :: y.pa) _ (by omega)).mono ?_; rintro e1 w4 ⟨rfl, hb4⟩
                have S4 : Hid (V5p w4 w2.heap.size x ∧ V5p w4 (w2.heap.size + 1) y) := hid ⟨V5p.new (w := w3.drew) S3.out.1 hb4, V5p.new (w := w3.drew) S3.out.2 hb4⟩
                have B4 := hid ((below_drewN B3.out 1).trans (hb4.mono B3.out.size))
                clear hb4
                go_simp
                refine hK2 _ _ ?_
                clear hK2 K2
                simp only [wpList]
                refine hK _ _ (fun _ => S4.out) ?_
                clear hK K
                apply wpPlan_val
                case ho => rfl
                case hst => rfl
                case hw => rfl
                case hv => intro w' hS; exact exec_add _ _ _ _ rfl (x.sc ++ x.au) (dots (back x.pa ++ 47 :: y.pa)) rfl rfl (by first | omega | (simp; done) | (simp; omega))
                intro K hK
                go_simp
                refine hK _ ?_
                clear hK K
                apply wpPlan_val
                case ho => rfl
                case hst => rfl
                case hw => rfl
                case hv => intro w' hS; exact exec_add _ _ _ _ rfl (x.sc ++ (x.au ++ dots (back x.pa ++ 47 :: y.pa))) (y.qu) rfl rfl (by first | omega | (simp; done) | (simp; omega))
                intro K hK
                go_simp
                refine hK _ ?_
                clear hK K
                apply wpPlan_val
                case ho => rfl
                case hst => rfl
                case hw => rfl
                case hv => intro w' hS; exact exec_add _ _ _ _ rfl (x.sc ++ (x.au ++ (dots (back x.pa ++ 47 :: y.pa) ++ y.qu))) (y.fr) rfl rfl (by first | omega | (simp; done) | (simp; omega))
                intro K hK
                go_simp
                refine hK _ ?_
                clear hK K
                apply wpPlan_val
                case ho => rfl
                case hst => rfl
                case hw => rfl
                case hv => intro w' hS; go_simp; first | done | rfl
                intro K hK
                go_simp
                refine hK _ ?_
                clear hK K
                refine wpPlan_nil ?_
                simp only [Qn]
                clear S3 B3 S4
                go_wp2_with fail
                go_ret
                refine ⟨?_, B4.out⟩
                have hR := E.out
                simp only [List.append_assoc] at hR
                rw [hR]
                try rfl
            · have HB : Hid (y.pa = beside x y.pa) := hid (by unfold beside; rw [if_neg (fun h => h4 h.1), last_no h5]; rfl)
              rw [h5]
              clear h4 h5
              by_cases h6 : x.au = []
              · have b6 := byes h6
                clear h6
                have hN7 : (y.pa).length ≤ 2002 := by first | omega | (simp; omega)
                have hdn := dots_len (y.pa)
                rw [← HB.out] at E9
                have E := hid E9
                clear E9
                go_wp2_with fail
                have hS := two_alloc w2 x y
                unfold O5 at hS
                generalize (w2.alloc (Obj.cells #[.string (B x.sc), .string (B x.au), .string (B x.pa), .string (B x.qu), .string (B x.fr)] 26)).alloc (Obj.cells #[.string (B y.sc), .string (B y.au), .string (B y.pa), .string (B y.qu), .string (B y.fr)] 26) = w3 at hS ⊢
                have S3 := hid hS.1
                have B3 := hid (B2.out.trans (hS.2.mono B2.out.size))
                clear hS B2
                refine wp_region_plan (fun w' => V5p w' w2.heap.size x ∧ V5p w' (w2.heap.size + 1) y) (fun j => decide (j ≠ 9)) (fun _ => false)
                  (.of [0, 1, 2, 3, 4, 5, 6, 7, 8, 11, 12, 14, 15, 9, 10, 13, 16, 17]) (by kernel_rfl) (by kernel_rfl) rfl (by kernel_rfl) (by kernel_rfl) ⟨S3.out.1, S3.out.2⟩ ?_
                apply wpPlan_val
                case ho => rfl
                case hst => rfl
                case hw => rfl
                case hv => intro w' hS; go_simp; first | done | rfl
                intro K hK
                go_simp
                refine hK _ ?_
                clear hK K
                apply wpPlan_val
                case ho => rfl
                case hst => rfl
                case hw => rfl
                case hv => intro w' hS; obtain ⟨c0, c1, c2, c3, c4, f0, f1, f2, f3, f4⟩ := five_cells hS.1; obtain ⟨d0, d1, d2, d3, d4, g0, g1, g2, g3, g4⟩ := five_cells hS.2; go_simp; first | done | rfl
                intro K hK
                go_simp
                refine hK _ ?_
                clear hK K
                apply wpPlan_val
                case ho => rfl
                case hst => rfl
                case hw => rfl
                case hv => intro w' hS; go_simp; first | done | rfl
                intro K hK
                go_simp
                refine hK _ ?_
                clear hK K
                apply wpPlan_val
                case ho => rfl
                case hst => rfl
                case hw => rfl
                case hv => intro w' hS; obtain ⟨c0, c1, c2, c3, c4, f0, f1, f2, f3, f4⟩ := five_cells hS.1; obtain ⟨d0, d1, d2, d3, d4, g0, g1, g2, g3, g4⟩ := five_cells hS.2; go_simp; first | done | rfl
                intro K hK
                go_simp
                refine hK _ ?_
                clear hK K
                apply wpPlan_val
                case ho => rfl
                case hst => rfl
                case hw => rfl
                case hv => intro w' hS; exact exec_add _ _ _ _ rfl (x.sc) (x.au) rfl rfl (by first | omega | (simp; done) | (simp; omega))
                intro K hK
                go_simp
                refine hK _ ?_
                clear hK K
                apply wpPlan_val
                case ho => rfl
                case hst => rfl
                case hw => rfl
                case hv => intro w' hS; go_simp; first | done | rfl
                intro K hK
                go_simp
                refine hK _ ?_
                clear hK K
                apply wpPlan_val
                case ho => rfl
                case hst => rfl
                case hw => rfl
                case hv => intro w' hS; go_simp; first | done | rfl
                intro K hK
                go_simp
                refine hK _ ?_
                clear hK K
                apply wpPlan_val
                case ho => rfl
                case hst => rfl
                case hw => rfl
                case hv => intro w' hS; obtain ⟨c0, c1, c2, c3, c4, f0, f1, f2, f3, f4⟩ := five_cells hS.1; obtain ⟨d0, d1, d2, d3, d4, g0, g1, g2, g3, g4⟩ := five_cells hS.2; go_simp; first | done | rfl
                intro K hK
                go_simp
                refine hK _ ?_
                clear hK K
                apply wpPlan_val
                case ho => rfl
                case hst => rfl
                case hw => rfl
                case hv => intro w' hS; exact exec_add _ _ _ _ rfl ([]) (y.pa) rfl rfl (by first | omega | (simp; done) | (simp; omega))
                intro K hK
                go_simp
                refine hK _ ?_
                clear hK K
                apply wpPlan_val
                case ho => rfl
                case hst => rfl
                case hw => rfl
                case hv => intro w' hS; go_simp; first | done | rfl
                intro K hK
                go_simp
                refine hK _ ?_
                clear hK K
                apply wpPlan_val
                case ho => rfl
                case hst => rfl
                case hw => rfl
                case hv => intro w' hS; obtain ⟨c0, c1, c2, c3, c4, f0, f1, f2, f3, f4⟩ := five_cells hS.1; obtain ⟨d0, d1, d2, d3, d4, g0, g1, g2, g3, g4⟩ := five_cells hS.2; go_simp; first | done | rfl
                intro K hK
                go_simp
                refine hK _ ?_
                clear hK K
                apply wpPlan_val
                case ho => rfl
                case hst => rfl
                case hw => rfl
                case hv => intro w' hS; go_simp; first | done | rfl
                intro K hK
                go_simp
                refine hK _ ?_
                clear hK K
                apply wpPlan_val
                case ho => rfl
                case hst => rfl
                case hw => rfl
                case hv => intro w' hS; obtain ⟨c0, c1, c2, c3, c4, f0, f1, f2, f3, f4⟩ := five_cells hS.1; obtain ⟨d0, d1, d2, d3, d4, g0, g1, g2, g3, g4⟩ := five_cells hS.2; go_simp; first | done | rfl
                intro K hK
                go_simp
                refine hK _ ?_
                clear hK K
                refine wpPlan_list rfl rfl rfl (fun K hK => ?_)
                refine wpList_step (fun K2 hK2 => ?_)
                go_simp
                refine (dots_any (y.pa) _ (by omega)).mono ?_; rintro e1 w4 ⟨rfl, hb4⟩
                have S4 : Hid (V5p w4 w2.heap.size x ∧ V5p w4 (w2.heap.size + 1) y) := hid ⟨V5p.new (w := w3.drew) S3.out.1 hb4, V5p.new (w := w3.drew) S3.out.2 hb4⟩
                have B4 := hid ((below_drewN B3.out 1).trans (hb4.mono B3.out.size))
                clear hb4
                go_simp
                refine hK2 _ _ ?_
                clear hK2 K2
                simp only [wpList]
                refine hK _ _ (fun _ => S4.out) ?_
                clear hK K
                apply wpPlan_val
                case ho => rfl
                case hst => rfl
                case hw => rfl
                case hv => intro w' hS; exact exec_add _ _ _ _ rfl (x.sc ++ x.au) (dots (y.pa)) rfl rfl (by first | omega | (simp; done) | (simp; omega))
                intro K hK
                go_simp
                refine hK _ ?_
                clear hK K
                apply wpPlan_val
                case ho => rfl
                case hst => rfl
                case hw => rfl
                case hv => intro w' hS; exact exec_add _ _ _ _ rfl (x.sc ++ (x.au ++ dots (y.pa))) (y.qu) rfl rfl (by first | omega | (simp; done) | (simp; omega))
                intro K hK
                go_simp
                refine hK _ ?_
                clear hK K
                apply wpPlan_val
                case ho => rfl
                case hst => rfl
                case hw => rfl
                case hv => intro w' hS; exact exec_add _ _ _ _ rfl (x.sc ++ (x.au ++ (dots (y.pa) ++ y.qu))) (y.fr) rfl rfl (by first | omega | (simp; done) | (simp; omega))
                intro K hK
                go_simp
                refine hK _ ?_
                clear hK K
                apply wpPlan_val
                case ho => rfl
                case hst => rfl
                case hw => rfl
                case hv => intro w' hS; go_simp; first | done | rfl
                intro K hK
                go_simp
                refine hK _ ?_
                clear hK K
                refine wpPlan_nil ?_
                simp only [Qn]
                clear S3 B3 S4
                go_wp2_with fail
                go_ret
                refine ⟨?_, B4.out⟩
                have hR := E.out
                simp only [List.append_assoc] at hR
                rw [hR]
                try rfl
              · have b6 := bno h6
                clear h6
                have hN7 : (y.pa).length ≤ 2002 := by first | omega | (simp; omega)
                have hdn := dots_len (y.pa)
                rw [← HB.out] at E9
                have E := hid E9
                clear E9
                go_wp2_with fail
                have hS := two_alloc w2 x y
                unfold O5 at hS
                generalize (w2.alloc (Obj.cells #[.string (B x.sc), .string (B x.au), .string (B x.pa), .string (B x.qu), .string (B x.fr)] 26)).alloc (Obj.cells #[.string (B y.sc), .string (B y.au), .string (B y.pa), .string (B y.qu), .string (B y.fr)] 26) = w3 at hS ⊢
                have S3 := hid hS.1
                have B3 := hid (B2.out.trans (hS.2.mono B2.out.size))
                clear hS B2
                refine wp_region_plan (fun w' => V5p w' w2.heap.size x ∧ V5p w' (w2.heap.size + 1) y) (fun j => decide (j ≠ 9)) (fun _ => false)
                  (.of [0, 1, 2, 3, 4, 5, 6, 7, 8, 11, 12, 14, 15, 9, 10, 13, 16, 17]) (by kernel_rfl) (by kernel_rfl) rfl (by kernel_rfl) (by kernel_rfl) ⟨S3.out.1, S3.out.2⟩ ?_
                apply wpPlan_val
                case ho => rfl
                case hst => rfl
                case hw => rfl
                case hv => intro w' hS; go_simp; first | done | rfl
                intro K hK
                go_simp
                refine hK _ ?_
                clear hK K
                apply wpPlan_val
                case ho => rfl
                case hst => rfl
                case hw => rfl
                case hv => intro w' hS; obtain ⟨c0, c1, c2, c3, c4, f0, f1, f2, f3, f4⟩ := five_cells hS.1; obtain ⟨d0, d1, d2, d3, d4, g0, g1, g2, g3, g4⟩ := five_cells hS.2; go_simp; first | done | rfl
                intro K hK
                go_simp
                refine hK _ ?_
                clear hK K
                apply wpPlan_val
                case ho => rfl
                case hst => rfl
                case hw => rfl
                case hv => intro w' hS; go_simp; first | done | rfl
                intro K hK
                go_simp
                refine hK _ ?_
                clear hK K
                apply wpPlan_val
                case ho => rfl
                case hst => rfl
                case hw => rfl
                case hv => intro w' hS; obtain ⟨c0, c1, c2, c3, c4, f0, f1, f2, f3, f4⟩ := five_cells hS.1; obtain ⟨d0, d1, d2, d3, d4, g0, g1, g2, g3, g4⟩ := five_cells hS.2; go_simp; first | done | rfl
                intro K hK
                go_simp
                refine hK _ ?_
                clear hK K
                apply wpPlan_val
                case ho => rfl
                case hst => rfl
                case hw => rfl
                case hv => intro w' hS; exact exec_add _ _ _ _ rfl (x.sc) (x.au) rfl rfl (by first | omega | (simp; done) | (simp; omega))
                intro K hK
                go_simp
                refine hK _ ?_
                clear hK K
                apply wpPlan_val
                case ho => rfl
                case hst => rfl
                case hw => rfl
                case hv => intro w' hS; go_simp; first | done | rfl
                intro K hK
                go_simp
                refine hK _ ?_
                clear hK K
                apply wpPlan_val
                case ho => rfl
                case hst => rfl
                case hw => rfl
                case hv => intro w' hS; go_simp; first | done | rfl
                intro K hK
                go_simp
                refine hK _ ?_
                clear hK K
                apply wpPlan_val
                case ho => rfl
                case hst => rfl
                case hw => rfl
                case hv => intro w' hS; obtain ⟨c0, c1, c2, c3, c4, f0, f1, f2, f3, f4⟩ := five_cells hS.1; obtain ⟨d0, d1, d2, d3, d4, g0, g1, g2, g3, g4⟩ := five_cells hS.2; go_simp; first | done | rfl
                intro K hK
                go_simp
                refine hK _ ?_
                clear hK K
                apply wpPlan_val
                case ho => rfl
                case hst => rfl
                case hw => rfl
                case hv => intro w' hS; exact exec_add _ _ _ _ rfl ([]) (y.pa) rfl rfl (by first | omega | (simp; done) | (simp; omega))
                intro K hK
                go_simp
                refine hK _ ?_
                clear hK K
                apply wpPlan_val
                case ho => rfl
                case hst => rfl
                case hw => rfl
                case hv => intro w' hS; go_simp; first | done | rfl
                intro K hK
                go_simp
                refine hK _ ?_
                clear hK K
                apply wpPlan_val
                case ho => rfl
                case hst => rfl
                case hw => rfl
                case hv => intro w' hS; obtain ⟨c0, c1, c2, c3, c4, f0, f1, f2, f3, f4⟩ := five_cells hS.1; obtain ⟨d0, d1, d2, d3, d4, g0, g1, g2, g3, g4⟩ := five_cells hS.2; go_simp; first | done | rfl
                intro K hK
                go_simp
                refine hK _ ?_
                clear hK K
                apply wpPlan_val
                case ho => rfl
                case hst => rfl
                case hw => rfl
                case hv => intro w' hS; go_simp; first | done | rfl
                intro K hK
                go_simp
                refine hK _ ?_
                clear hK K
                apply wpPlan_val
                case ho => rfl
                case hst => rfl
                case hw => rfl
                case hv => intro w' hS; obtain ⟨c0, c1, c2, c3, c4, f0, f1, f2, f3, f4⟩ := five_cells hS.1; obtain ⟨d0, d1, d2, d3, d4, g0, g1, g2, g3, g4⟩ := five_cells hS.2; go_simp; first | done | rfl
                intro K hK
                go_simp
                refine hK _ ?_
                clear hK K
                refine wpPlan_list rfl rfl rfl (fun K hK => ?_)
                refine wpList_step (fun K2 hK2 => ?_)
                go_simp
                refine (dots_any (y.pa) _ (by omega)).mono ?_; rintro e1 w4 ⟨rfl, hb4⟩
                have S4 : Hid (V5p w4 w2.heap.size x ∧ V5p w4 (w2.heap.size + 1) y) := hid ⟨V5p.new (w := w3.drew) S3.out.1 hb4, V5p.new (w := w3.drew) S3.out.2 hb4⟩
                have B4 := hid ((below_drewN B3.out 1).trans (hb4.mono B3.out.size))
                clear hb4
                go_simp
                refine hK2 _ _ ?_
                clear hK2 K2
                simp only [wpList]
                refine hK _ _ (fun _ => S4.out) ?_
                clear hK K
                apply wpPlan_val
                case ho => rfl
                case hst => rfl
                case hw => rfl
                case hv => intro w' hS; exact exec_add _ _ _ _ rfl (x.sc ++ x.au) (dots (y.pa)) rfl rfl (by first | omega | (simp; done) | (simp; omega))
                intro K hK
                go_simp
                refine hK _ ?_
                clear hK K
                apply wpPlan_val
                case ho => rfl
                case hst => rfl
                case hw => rfl
                case hv => intro w' hS; exact exec_add _ _ _ _ rfl (x.sc ++ (x.au ++ dots (y.pa))) (y.qu) rfl rfl (by first | omega | (simp; done) | (simp; omega))
                intro K hK
                go_simp
                refine hK _ ?_
                clear hK K
                apply wpPlan_val
                case ho => rfl
                case hst => rfl
                case hw => rfl
                case hv => intro w' hS; exact exec_add _ _ _ _ rfl (x.sc ++ (x.au ++ (dots (y.pa) ++ y.qu))) (y.fr) rfl rfl (by first | omega | (simp; done) | (simp; omega))
                intro K hK
                go_simp
                refine hK _ ?_
                clear hK K
                apply wpPlan_val
                case ho => rfl
                case hst => rfl
                case hw => rfl
                case hv => intro w' hS; go_simp; first | done | rfl
                intro K hK
                go_simp
                refine hK _ ?_
                clear hK K
                refine wpPlan_nil ?_
                simp only [Qn]
                clear S3 B3 S4
                go_wp2_with fail
                go_ret
                refine ⟨?_, B4.out⟩
                have hR := E.out
                simp only [List.append_assoc] at hR
                rw [hR]
                try rfl
end Go.Proofs.Ytmelcnnpjooocaa
