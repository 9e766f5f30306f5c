/- iri.Resolve. -/
import Derived.Test.YtmelcnnpjooocaaIriQ
namespace Go.Proofs.Ytmelcnnpjooocaa
open Go.RowKit
set_option linter.unusedVariables false

theorem iSplit_agg (l : List UInt8) (a b c d e : List UInt8) (hp : split l = ⟨a, b, c, d, e⟩) (w : World) (hl : l.length ≤ 1000) :
    Calls Try.prog 9 #[.string (B l)] w fun en w' => en = .returned (.agg #[.string (B a), .string (B b), .string (B c), .string (B d), .string (B e)]) ∧ Below w.heap.size w w' := by
  have h := iSplit_any l w (by omega)
  rw [hp] at h
  exact h

/-- the base, the reference, what is put out -/
structure R3 (g5 g6 g7 : Nat) (w wr : World) (x y o : P5) : Prop where
  b : V5p wr g5 x
  r : V5p wr g6 y
  o : V5p wr g7 o
  n5 : g5 ≠ g7
  n6 : g6 ≠ g7
  lo : g5 ≤ g7
  bel : Below g5 w wr
theorem R3.new {g5 g6 g7 : Nat} {w wr w' : World} {x y o : P5} (h : R3 g5 g6 g7 w wr x y o) (hb : Below wr.heap.size wr w') : R3 g5 g6 g7 w w' x y o :=
  ⟨h.b.new hb, h.r.new hb, h.o.new hb, h.n5, h.n6, h.lo, h.bel.trans (hb.mono (Nat.le_of_lt (Blk.lt h.b)))⟩
theorem R3.drew {g5 g6 g7 : Nat} {w wr : World} {x y o : P5} (h : R3 g5 g6 g7 w wr x y o) : R3 g5 g6 g7 w wr.drew x y o := h.new (Below.refl _ _).drew
theorem R3.set {g5 g6 g7 : Nat} {w wr : World} {x y o : P5} (h : R3 g5 g6 g7 w wr x y o) (i : Nat) (v : List UInt8) (o' : P5)
    (hs : [Value.string (B o.sc), .string (B o.au), .string (B o.pa), .string (B o.qu), .string (B o.fr)].set i (.string (B v)) = [.string (B o'.sc), .string (B o'.au), .string (B o'.pa), .string (B o'.qu), .string (B o'.fr)]) :
    R3 g5 g6 g7 w (wr.setCell ⟨g7, i, none⟩ (.string (B v))) x y o' := by
  have hc := Chg.setCell (fp := fun k => k = g7) wr (a := ⟨g7, i, none⟩) rfl (.string (B v))
  have n5 := h.n5
  have n6 := h.n6
  refine ⟨Blk.chg h.b hc (fun h2 => n5 h2), Blk.chg h.r hc (fun h2 => n6 h2), ?_, n5, n6, h.lo, h.bel.setCell (show g5 ≤ g7 from h.lo) _⟩
  have h1 := Blk.set h.o i (.string (B v))
  rw [hs] at h1
  exact h1

abbrev ON (f : List UInt8) : Obj := Obj.cells #[.string ⟨#[]⟩, .string ⟨#[]⟩, .string ⟨#[]⟩, .string ⟨#[]⟩, .string (B f)] 26
theorem four_alloc (w : World) (x y : P5) : R3 w.heap.size (w.heap.size + 1) (w.heap.size + 1 + 1) w ((((w.alloc (O5 x)).alloc (O5 y)).alloc (O5 y)).alloc (ON y.fr)) x y y := by
  have h0 := two_alloc w x y
  have h2 := heap_alloc_new ((w.alloc (O5 x)).alloc (O5 y)) (O5 y)
  have h3 : ((w.alloc (O5 x)).alloc (O5 y)).heap.size = w.heap.size + 1 + 1 := by simp
  rw [h3] at h2
  have b1 : Below ((w.alloc (O5 x)).alloc (O5 y)).heap.size ((w.alloc (O5 x)).alloc (O5 y)) (((w.alloc (O5 x)).alloc (O5 y)).alloc (O5 y)) := (Below.refl _ _).alloc (Nat.le_refl _) _
  have b2 : Below (((w.alloc (O5 x)).alloc (O5 y)).alloc (O5 y)).heap.size (((w.alloc (O5 x)).alloc (O5 y)).alloc (O5 y)) ((((w.alloc (O5 x)).alloc (O5 y)).alloc (O5 y)).alloc (ON y.fr)) := (Below.refl _ _).alloc (Nat.le_refl _) _
  have r1 : R3 w.heap.size (w.heap.size + 1) (w.heap.size + 1 + 1) w (((w.alloc (O5 x)).alloc (O5 y)).alloc (O5 y)) x y y := ⟨h0.1.1.new b1, h0.1.2.new b1, h2, by omega, by omega, by omega, h0.2.trans (b1.mono (by rw [h3]; omega))⟩
  exact r1.new b2
theorem bes_any (x : P5) (r N : List UInt8) (hN : beside x r = N) (w : World) (hx : x.sc.length + x.au.length + x.pa.length + x.qu.length + x.fr.length ≤ 1000) (hr : r.length ≤ 1000) :
    Calls Try.prog 18 #[.agg #[.string (B x.sc), .string (B x.au), .string (B x.pa), .string (B x.qu), .string (B x.fr)], .string (B r)] w fun e w' => e = .returned (.string (B N)) ∧ Below w.heap.size w w' := by
  subst hN
  exact beside_any x r w hx hr
theorem beq_nil (l : List UInt8) : (l == []) = l.isEmpty := by cases l <;> rfl

set_option maxRecDepth 100000 in
set_option maxHeartbeats 16000000 in
theorem iResolve_any (b r : List UInt8) (w : World) (hb : b.length ≤ 1000) (hr : r.length ≤ 1000) :
    Calls Try.prog 11 #[.string (B b), .string (B r)] w fun e w' => e = .returned (.string (B (resolve b r))) ∧ Below w.heap.size w w' := by
  rw [resolve_eq]
  have hlx := split_len b
  have hly := split_len r
  generalize hx : split b = x at hlx
  generalize hy : split r = y at hly
  obtain ⟨xs, xa, xp, xq, xf⟩ := x
  obtain ⟨ys, ya, yp, yq, yf⟩ := y
  simp only at hlx hly
  have HX := hid hx
  have HY := hid hy
  clear hx hy
  have hdl := dots_len yp
  go_enter Try.func11, Try.ntmps11
  go_wp2_with fail
  refine (iSplit_agg b _ _ _ _ _ HX.out _ hb).mono ?_; rintro e1 w1 ⟨rfl, hb1⟩
  have B1 := hid hb1
  clear hb1
  go_wp2_with fail
  refine (iSplit_agg r _ _ _ _ _ HY.out _ hr).mono ?_; rintro e1 w2 ⟨rfl, hb2⟩
  have B2 := hid (B1.out.trans (hb2.mono B1.out.size))
  clear hb2 B1 HX HY
  by_cases h0 : ys = []
  · subst h0
    by_cases h1 : ya = []
    · subst h1
      by_cases h2 : yp = []
      · subst h2
        by_cases h3 : yq = []
        · subst h3
          have E := hid (show resolveP ⟨xs, xa, xp, xq, xf⟩ ⟨[], [], [], [], yf⟩ = xs ++ xa ++ xp ++ xq ++ yf by rfl)
          go_wp2_with fail
          have hS := four_alloc w2 ⟨xs, xa, xp, xq, xf⟩ ⟨[], [], [], [], yf⟩
          unfold O5 ON at hS
          simp only at hS
          generalize (((w2.alloc (Obj.cells #[.string (B xs), .string (B xa), .string (B xp), .string (B xq), .string (B xf)] 26)).alloc (Obj.cells #[.string (B []), .string (B []), .string (B []), .string (B []), .string (B yf)] 26)).alloc (Obj.cells #[.string (B []), .string (B []), .string (B []), .string (B []), .string (B yf)] 26)).alloc (Obj.cells #[.string ⟨#[]⟩, .string ⟨#[]⟩, .string ⟨#[]⟩, .string ⟨#[]⟩, .string (B yf)] 26) = w3 at hS ⊢
          have RA := hid hS
          have BZ := hid B2.out.size
          clear hS
          refine wp_region_plan (fun w' => V5p w' w2.heap.size ⟨xs, xa, xp, xq, xf⟩ ∧ V5p w' (w2.heap.size + 1) ⟨[], [], [], [], yf⟩) (fun j => !([7, 9, 11].contains j)) (fun _ => false)
            (.of [0, 1, 2, 3, 4, 5, 6, 7, 8, 9, 10, 11]) (by kernel_rfl) (by kernel_rfl) rfl (by kernel_rfl) (by kernel_rfl) ⟨RA.out.b, RA.out.r⟩ ?_
          apply wpPlan_val
          case ho => rfl
          case hst => rfl
          case hw => rfl
          case hv => intro w' hS; go_simp; first | done | rfl
          intro K hK
          go_simp
          refine hK _ ?_
          clear hK K
          apply wpPlan_val
          case ho => rfl
          case hst => rfl
          case hw => rfl
          case hv => intro w' hS; obtain ⟨c0, c1, c2, c3, c4, f0, f1, f2, f3, f4⟩ := five_cells hS.1; obtain ⟨d0, d1, d2, d3, d4, g0, g1, g2, g3, g4⟩ := five_cells hS.2; go_simp; first | done | rfl
          intro K hK
          go_simp
          refine hK _ ?_
          clear hK K
          apply wpPlan_val
          case ho => rfl
          case hst => rfl
          case hw => rfl
          case hv => intro w' hS; go_simp; first | done | rfl
          intro K hK
          go_simp
          refine hK _ ?_
          clear hK K
          apply wpPlan_val
          case ho => rfl
          case hst => rfl
          case hw => rfl
          case hv => intro w' hS; obtain ⟨c0, c1, c2, c3, c4, f0, f1, f2, f3, f4⟩ := five_cells hS.1; obtain ⟨d0, d1, d2, d3, d4, g0, g1, g2, g3, g4⟩ := five_cells hS.2; go_simp; first | done | rfl
          intro K hK
          go_simp
          refine hK _ ?_
          clear hK K
          apply wpPlan_val
          case ho => rfl
          case hst => rfl
          case hw => rfl
          case hv => intro w' hS; go_simp; first | done | rfl
          intro K hK
          go_simp
          refine hK _ ?_
          clear hK K
          apply wpPlan_val
          case ho => rfl
          case hst => rfl
          case hw => rfl
          case hv => intro w' hS; obtain ⟨c0, c1, c2, c3, c4, f0, f1, f2, f3, f4⟩ := five_cells hS.1; obtain ⟨d0, d1, d2, d3, d4, g0, g1, g2, g3, g4⟩ := five_cells hS.2; go_simp; first | done | rfl
          intro K hK
          go_simp
          refine hK _ ?_
          clear hK K
          apply wpPlan_val
          case ho => rfl
          case hst => rfl
          case hw => rfl
          case hv => intro w' hS; go_simp; first | done | rfl
          intro K hK
          go_simp
          refine hK _ ?_
          clear hK K
          refine wpPlan_list rfl rfl rfl (fun K hK => ?_)
          refine wpList_step (fun K2 hK2 => ?_)
          obtain ⟨c0, c1, c2, c3, c4, f0, f1, f2, f3, f4⟩ := five_cells RA.out.o
          go_simp
          clear c0 c1 c2 c3 c4 f0 f1 f2 f3 f4
          refine hK2 _ _ ?_
          clear hK2 K2
          simp only [wpList]
          have hR := (RA.out.set 0 (xs) ⟨xs, [], [], [], yf⟩ rfl).drew
          generalize (w3.setCell ⟨(w2.heap.size + 1 + 1), 0, none⟩ (.string (B (xs)))).drew = w4 at hR ⊢
          have RB := hid hR
          clear hR RA
          refine hK _ _ (fun _ => ⟨RB.out.b, RB.out.r⟩) ?_
          clear hK K
          apply wpPlan_val
          case ho => rfl
          case hst => rfl
          case hw => rfl
          case hv => intro w' hS; go_simp; first | done | rfl
          intro K hK
          go_simp
          refine hK _ ?_
          clear hK K
          refine wpPlan_list rfl rfl rfl (fun K hK => ?_)
          refine wpList_step (fun K2 hK2 => ?_)
          obtain ⟨c0, c1, c2, c3, c4, f0, f1, f2, f3, f4⟩ := five_cells RB.out.o
          go_simp
          clear c0 c1 c2 c3 c4 f0 f1 f2 f3 f4
          refine hK2 _ _ ?_
          clear hK2 K2
          simp only [wpList]
          have hR := (RB.out.set 1 (xa) ⟨xs, xa, [], [], yf⟩ rfl)
          generalize (w4.setCell ⟨(w2.heap.size + 1 + 1), 1, none⟩ (.string (B (xa)))) = w5 at hR ⊢
          have RC := hid hR
          clear hR RB
          refine hK _ _ (fun _ => ⟨RC.out.b, RC.out.r⟩) ?_
          clear hK K
          apply wpPlan_val
          case ho => rfl
          case hst => rfl
          case hw => rfl
          case hv => intro w' hS; go_simp; first | done | rfl
          intro K hK
          go_simp
          refine hK _ ?_
          clear hK K
          refine wpPlan_list rfl rfl rfl (fun K hK => ?_)
          refine wpList_step (fun K2 hK2 => ?_)
          obtain ⟨c0, c1, c2, c3, c4, f0, f1, f2, f3, f4⟩ := five_cells RC.out.o
          go_simp
          clear c0 c1 c2 c3 c4 f0 f1 f2 f3 f4
          refine hK2 _ _ ?_
          clear hK2 K2
          simp only [wpList]
          have hR := (RC.out.set 2 (xp) ⟨xs, xa, xp, [], yf⟩ rfl)
          generalize (w5.setCell ⟨(w2.heap.size + 1 + 1), 2, none⟩ (.string (B (xp)))) = w6 at hR ⊢
          have RD := hid hR
          clear hR RC
          refine hK _ _ (fun _ => ⟨RD.out.b, RD.out.r⟩) ?_
          clear hK K
          refine wpPlan_nil ?_
          simp only [Qn]
          obtain ⟨c0, c1, c2, c3, c4, f0, f1, f2, f3, f4⟩ := five_cells RD.out.o
          obtain ⟨d0, d1, d2, d3, d4, g0, g1, g2, g3, g4⟩ := five_cells RD.out.b
          obtain ⟨h0, h1, h2, h3, h4, m0, m1, m2, m3, m4⟩ := five_cells RD.out.r
          go_wp2_with fail
          clear c0 c1 c2 c3 c4 f0 f1 f2 f3 f4 d0 d1 d2 d3 d4 g0 g1 g2 g3 g4 h0 h1 h2 h3 h4 m0 m1 m2 m3 m4
          have hR := RD.out.set 3 xq ⟨xs, xa, xp, xq, yf⟩ rfl
          generalize w6.setCell ⟨(w2.heap.size + 1 + 1), 3, none⟩ (.string (B xq)) = w7 at hR ⊢
          have RE := hid hR
          clear hR RD
          refine (join_any _ _ ⟨xs, xa, xp, xq, yf⟩ RE.out.o (by first | (simp only at *; omega) | (simp only [List.length_nil] at *; omega))).mono ?_; rintro e1 wz ⟨rfl, hbz⟩
          have RZ := hid (RE.out.new hbz)
          clear hbz
          go_wp2_with fail
          go_ret
          refine ⟨?_, B2.out.trans (RZ.out.bel.mono B2.out.size)⟩
          have hE := E.out
          simp only [List.append_assoc] at hE
          rw [hE]
          try rfl
        · have b3 : (yq == []) = false := bno h3
          have E := hid (show resolveP ⟨xs, xa, xp, xq, xf⟩ ⟨[], [], [], yq, yf⟩ = xs ++ xa ++ xp ++ yq ++ yf by unfold resolveP; rw [if_neg (fun h => h rfl), if_neg (fun h => h rfl), if_pos rfl, if_neg h3])
          clear h3
          go_wp2_with fail
          have hS := four_alloc w2 ⟨xs, xa, xp, xq, xf⟩ ⟨[], [], [], yq, yf⟩
          unfold O5 ON at hS
          simp only at hS
          generalize (((w2.alloc (Obj.cells #[.string (B xs), .string (B xa), .string (B xp), .string (B xq), .string (B xf)] 26)).alloc (Obj.cells #[.string (B []), .string (B []), .string (B []), .string (B yq), .string (B yf)] 26)).alloc (Obj.cells #[.string (B []), .string (B []), .string (B []), .string (B yq), .string (B yf)] 26)).alloc (Obj.cells #[.string ⟨#[]⟩, .string ⟨#[]⟩, .string ⟨#[]⟩, .string ⟨#[]⟩, .string (B yf)] 26) = w3 at hS ⊢
          have RA := hid hS
          have BZ := hid B2.out.size
          clear hS
          refine wp_region_plan (fun w' => V5p w' w2.heap.size ⟨xs, xa, xp, xq, xf⟩ ∧ V5p w' (w2.heap.size + 1) ⟨[], [], [], yq, yf⟩) (fun j => !([7, 9, 11].contains j)) (fun _ => false)
            (.of [0, 1, 2, 3, 4, 5, 6, 7, 8, 9, 10, 11]) (by kernel_rfl) (by kernel_rfl) rfl (by kernel_rfl) (by kernel_rfl) ⟨RA.out.b, RA.out.r⟩ ?_
          apply wpPlan_val
          case ho => rfl
          case hst => rfl
          case hw => rfl
          case hv => intro w' hS; go_simp; first | done | rfl
          intro K hK
          go_simp
          refine hK _ ?_
          clear hK K
          apply wpPlan_val
          case ho => rfl
          case hst => rfl
          case hw => rfl
          case hv => intro w' hS; obtain ⟨c0, c1, c2, c3, c4, f0, f1, f2, f3, f4⟩ := five_cells hS.1; obtain ⟨d0, d1, d2, d3, d4, g0, g1, g2, g3, g4⟩ := five_cells hS.2; go_simp; first | done | rfl
          intro K hK
          go_simp
          refine hK _ ?_
          clear hK K
          apply wpPlan_val
          case ho => rfl
          case hst => rfl
          case hw => rfl
          case hv => intro w' hS; go_simp; first | done | rfl
          intro K hK
          go_simp
          refine hK _ ?_
          clear hK K
          apply wpPlan_val
          case ho => rfl
          case hst => rfl
          case hw => rfl
          case hv => intro w' hS; obtain ⟨c0, c1, c2, c3, c4, f0, f1, f2, f3, f4⟩ := five_cells hS.1; obtain ⟨d0, d1, d2, d3, d4, g0, g1, g2, g3, g4⟩ := five_cells hS.2; go_simp; first | done | rfl
          intro K hK
          go_simp
          refine hK _ ?_
          clear hK K
          apply wpPlan_val
          case ho => rfl
          case hst => rfl
          case hw => rfl
          case hv => intro w' hS; go_simp; first | done | rfl
          intro K hK
          go_simp
          refine hK _ ?_
          clear hK K
          apply wpPlan_val
          case ho => rfl
          case hst => rfl
          case hw => rfl
          case hv => intro w' hS; obtain ⟨c0, c1, c2, c3, c4, f0, f1, f2, f3, f4⟩ := five_cells hS.1; obtain ⟨d0, d1, d2, d3, d4, g0, g1, g2, g3, g4⟩ := five_cells hS.2; go_simp; first | done | rfl
          intro K hK
          go_simp
          refine hK _ ?_
          clear hK K
          apply wpPlan_val
          case ho => rfl
          case hst => rfl
          case hw => rfl
          case hv => intro w' hS; go_simp; first | done | rfl
          intro K hK
          go_simp
          refine hK _ ?_
          clear hK K
          refine wpPlan_list rfl rfl rfl (fun K hK => ?_)
          refine wpList_step (fun K2 hK2 => ?_)
          obtain ⟨c0, c1, c2, c3, c4, f0, f1, f2, f3, f4⟩ := five_cells RA.out.o
          go_simp
          clear c0 c1 c2 c3 c4 f0 f1 f2 f3 f4
          refine hK2 _ _ ?_
          clear hK2 K2
          simp only [wpList]
          have hR := (RA.out.set 0 (xs) ⟨xs, [], [], yq, yf⟩ rfl).drew
          generalize (w3.setCell ⟨(w2.heap.size + 1 + 1), 0, none⟩ (.string (B (xs)))).drew = w4 at hR ⊢
          have RB := hid hR
          clear hR RA
          refine hK _ _ (fun _ => ⟨RB.out.b, RB.out.r⟩) ?_
          clear hK K
          apply wpPlan_val
          case ho => rfl
          case hst => rfl
          case hw => rfl
          case hv => intro w' hS; go_simp; first | done | rfl
          intro K hK
          go_simp
          refine hK _ ?_
          clear hK K
          refine wpPlan_list rfl rfl rfl (fun K hK => ?_)
          refine wpList_step (fun K2 hK2 => ?_)
          obtain ⟨c0, c1, c2, c3, c4, f0, f1, f2, f3, f4⟩ := five_cells RB.out.o
          go_simp
          clear c0 c1 c2 c3 c4 f0 f1 f2 f3 f4
          refine hK2 _ _ ?_
          clear hK2 K2
          simp only [wpList]
          have hR := (RB.out.set 1 (xa) ⟨xs, xa, [], yq, yf⟩ rfl)
          generalize (w4.setCell ⟨(w2.heap.size + 1 + 1), 1, none⟩ (.string (B (xa)))) = w5 at hR ⊢
          have RC := hid hR
          clear hR RB
          refine hK _ _ (fun _ => ⟨RC.out.b, RC.out.r⟩) ?_
          clear hK K
          apply wpPlan_val
          case ho => rfl
          case hst => rfl
          case hw => rfl
          case hv => intro w' hS; go_simp; first | done | rfl
          intro K hK
          go_simp
          refine hK _ ?_
          clear hK K
          refine wpPlan_list rfl rfl rfl (fun K hK => ?_)
          refine wpList_step (fun K2 hK2 => ?_)
          obtain ⟨c0, c1, c2, c3, c4, f0, f1, f2, f3, f4⟩ := five_cells RC.out.o
          go_simp
          clear c0 c1 c2 c3 c4 f0 f1 f2 f3 f4
          refine hK2 _ _ ?_
          clear hK2 K2
          simp only [wpList]
          have hR := (RC.out.set 2 (xp) ⟨xs, xa, xp, yq, yf⟩ rfl)
          generalize (w5.setCell ⟨(w2.heap.size + 1 + 1), 2, none⟩ (.string (B (xp)))) = w6 at hR ⊢
          have RD := hid hR
          clear hR RC
          refine hK _ _ (fun _ => ⟨RD.out.b, RD.out.r⟩) ?_
          clear hK K
          refine wpPlan_nil ?_
          simp only [Qn]
          obtain ⟨c0, c1, c2, c3, c4, f0, f1, f2, f3, f4⟩ := five_cells RD.out.o
          obtain ⟨d0, d1, d2, d3, d4, g0, g1, g2, g3, g4⟩ := five_cells RD.out.b
          obtain ⟨h0, h1, h2, h3, h4, m0, m1, m2, m3, m4⟩ := five_cells RD.out.r
          go_wp2_with fail
          clear c0 c1 c2 c3 c4 f0 f1 f2 f3 f4 d0 d1 d2 d3 d4 g0 g1 g2 g3 g4 h0 h1 h2 h3 h4 m0 m1 m2 m3 m4
          refine (join_any _ _ ⟨xs, xa, xp, yq, yf⟩ RD.out.o (by first | (simp only at *; omega) | (simp only [List.length_nil] at *; omega))).mono ?_; rintro e1 wz ⟨rfl, hbz⟩
          have RZ := hid (RD.out.new hbz)
          clear hbz
          go_wp2_with fail
          go_ret
          refine ⟨?_, B2.out.trans (RZ.out.bel.mono B2.out.size)⟩
          have hE := E.out
          simp only [List.append_assoc] at hE
          rw [hE]
          try rfl
      · have b2 : (yp == []) = false := bno h2
        have hpos : 0 < yp.length := List.length_pos_iff.2 h2
        by_cases h3 : yp[0]? = some 47
        · have hget : yp[0]'hpos = 47 := (List.getElem?_eq_some_iff.1 h3).2
          have E := hid (show resolveP ⟨xs, xa, xp, xq, xf⟩ ⟨[], [], yp, yq, yf⟩ = xs ++ xa ++ dots yp ++ yq ++ yf by unfold resolveP; rw [if_neg (fun h => h rfl), if_neg (fun h => h rfl), if_neg h2, if_pos h3])
          clear h2 h3
          go_wp2_with fail
          have hS := four_alloc w2 ⟨xs, xa, xp, xq, xf⟩ ⟨[], [], yp, yq, yf⟩
          unfold O5 ON at hS
          simp only at hS
          generalize (((w2.alloc (Obj.cells #[.string (B xs), .string (B xa), .string (B xp), .string (B xq), .string (B xf)] 26)).alloc (Obj.cells #[.string (B []), .string (B []), .string (B yp), .string (B yq), .string (B yf)] 26)).alloc (Obj.cells #[.string (B []), .string (B []), .string (B yp), .string (B yq), .string (B yf)] 26)).alloc (Obj.cells #[.string ⟨#[]⟩, .string ⟨#[]⟩, .string ⟨#[]⟩, .string ⟨#[]⟩, .string (B yf)] 26) = w3 at hS ⊢
          have RA := hid hS
          have BZ := hid B2.out.size
          clear hS
          refine wp_region_plan (fun w' => V5p w' w2.heap.size ⟨xs, xa, xp, xq, xf⟩ ∧ V5p w' (w2.heap.size + 1) ⟨[], [], yp, yq, yf⟩) (fun j => !([6, 8, 10, 12].contains j)) (fun _ => false)
            (.of [0, 1, 2, 3, 4, 5, 6, 7, 8, 9, 10, 11, 12]) (by kernel_rfl) (by kernel_rfl) rfl (by kernel_rfl) (by kernel_rfl) ⟨RA.out.b, RA.out.r⟩ ?_
          apply wpPlan_val
          case ho => rfl
          case hst => rfl
          case hw => rfl
          case hv => intro w' hS; go_simp; first | done | rfl
          intro K hK
          go_simp
          refine hK _ ?_
          clear hK K
          apply wpPlan_val
          case ho => rfl
          case hst => rfl
          case hw => rfl
          case hv => intro w' hS; obtain ⟨c0, c1, c2, c3, c4, f0, f1, f2, f3, f4⟩ := five_cells hS.1; obtain ⟨d0, d1, d2, d3, d4, g0, g1, g2, g3, g4⟩ := five_cells hS.2; go_simp; first | done | rfl
          intro K hK
          go_simp
          refine hK _ ?_
          clear hK K
          apply wpPlan_val
          case ho => rfl
          case hst => rfl
          case hw => rfl
          case hv => intro w' hS; go_simp; first | done | rfl
          intro K hK
          go_simp
          refine hK _ ?_
          clear hK K
          apply wpPlan_val
          case ho => rfl
          case hst => rfl
          case hw => rfl
          case hv => intro w' hS; obtain ⟨c0, c1, c2, c3, c4, f0, f1, f2, f3, f4⟩ := five_cells hS.1; obtain ⟨d0, d1, d2, d3, d4, g0, g1, g2, g3, g4⟩ := five_cells hS.2; go_simp; first | done | rfl
          intro K hK
          go_simp
          refine hK _ ?_
          clear hK K
          apply wpPlan_val
          case ho => rfl
          case hst => rfl
          case hw => rfl
          case hv => intro w' hS; go_simp; first | done | rfl
          intro K hK
          go_simp
          refine hK _ ?_
          clear hK K
          apply wpPlan_val
          case ho => rfl
          case hst => rfl
          case hw => rfl
          case hv => intro w' hS; obtain ⟨c0, c1, c2, c3, c4, f0, f1, f2, f3, f4⟩ := five_cells hS.1; obtain ⟨d0, d1, d2, d3, d4, g0, g1, g2, g3, g4⟩ := five_cells hS.2; go_simp; first | done | rfl
          intro K hK
          go_simp
          refine hK _ ?_
          clear hK K
          refine wpPlan_list rfl rfl rfl (fun K hK => ?_)
          refine wpList_step (fun K2 hK2 => ?_)
          go_simp
          refine (straight_any yp _ (by omega)).mono ?_; rintro e1 w4 ⟨rfl, hb4⟩
          have RB := hid (R3.new (wr := w3.drew) RA.out.drew hb4)
          clear hb4 RA
          go_simp
          refine hK2 _ _ ?_
          clear hK2 K2
          simp only [wpList]
          refine hK _ _ (fun _ => ⟨RB.out.b, RB.out.r⟩) ?_
          clear hK K
          apply wpPlan_val
          case ho => rfl
          case hst => rfl
          case hw => rfl
          case hv => intro w' hS; go_simp; first | done | rfl
          intro K hK
          go_simp
          refine hK _ ?_
          clear hK K
          refine wpPlan_list rfl rfl rfl (fun K hK => ?_)
          refine wpList_step (fun K2 hK2 => ?_)
          obtain ⟨c0, c1, c2, c3, c4, f0, f1, f2, f3, f4⟩ := five_cells RB.out.o
          go_simp
          clear c0 c1 c2 c3 c4 f0 f1 f2 f3 f4
          refine hK2 _ _ ?_
          clear hK2 K2
          simp only [wpList]
          have hR := (RB.out.set 0 (xs) ⟨xs, [], yp, yq, yf⟩ rfl)
          generalize (w4.setCell ⟨(w2.heap.size + 1 + 1), 0, none⟩ (.string (B (xs)))) = w5 at hR ⊢
          have RC := hid hR
          clear hR RB
          refine hK _ _ (fun _ => ⟨RC.out.b, RC.out.r⟩) ?_
          clear hK K
          apply wpPlan_val
          case ho => rfl
          case hst => rfl
          case hw => rfl
          case hv => intro w' hS; go_simp; first | done | rfl
          intro K hK
          go_simp
          refine hK _ ?_
          clear hK K
          refine wpPlan_list rfl rfl rfl (fun K hK => ?_)
          refine wpList_step (fun K2 hK2 => ?_)
          obtain ⟨c0, c1, c2, c3, c4, f0, f1, f2, f3, f4⟩ := five_cells RC.out.o
          go_simp
          clear c0 c1 c2 c3 c4 f0 f1 f2 f3 f4
          refine hK2 _ _ ?_
          clear hK2 K2
          simp only [wpList]
          have hR := (RC.out.set 1 (xa) ⟨xs, xa, yp, yq, yf⟩ rfl)
          generalize (w5.setCell ⟨(w2.heap.size + 1 + 1), 1, none⟩ (.string (B (xa)))) = w6 at hR ⊢
          have RD := hid hR
          clear hR RC
          refine hK _ _ (fun _ => ⟨RD.out.b, RD.out.r⟩) ?_
          clear hK K
          apply wpPlan_val
          case ho => rfl
          case hst => rfl
          case hw => rfl
          case hv => intro w' hS; go_simp; first | done | rfl
          intro K hK
          go_simp
          refine hK _ ?_
          clear hK K
          refine wpPlan_list rfl rfl rfl (fun K hK => ?_)
          refine wpList_step (fun K2 hK2 => ?_)
          obtain ⟨c0, c1, c2, c3, c4, f0, f1, f2, f3, f4⟩ := five_cells RD.out.o
          go_simp
          clear c0 c1 c2 c3 c4 f0 f1 f2 f3 f4
          refine hK2 _ _ ?_
          clear hK2 K2
          simp only [wpList]
          have hR := (RD.out.set 2 (dots yp) ⟨xs, xa, dots yp, yq, yf⟩ rfl)
          generalize (w6.setCell ⟨(w2.heap.size + 1 + 1), 2, none⟩ (.string (B (dots yp)))) = w7 at hR ⊢
          have RE := hid hR
          clear hR RD
          refine hK _ _ (fun _ => ⟨RE.out.b, RE.out.r⟩) ?_
          clear hK K
          refine wpPlan_nil ?_
          simp only [Qn]
          obtain ⟨c0, c1, c2, c3, c4, f0, f1, f2, f3, f4⟩ := five_cells RE.out.o
          obtain ⟨d0, d1, d2, d3, d4, g0, g1, g2, g3, g4⟩ := five_cells RE.out.b
          obtain ⟨h0, h1, h2, h3, h4, m0, m1, m2, m3, m4⟩ := five_cells RE.out.r
          go_wp2_with fail
          clear c0 c1 c2 c3 c4 f0 f1 f2 f3 f4 d0 d1 d2 d3 d4 g0 g1 g2 g3 g4 h0 h1 h2 h3 h4 m0 m1 m2 m3 m4
          refine (join_any _ _ ⟨xs, xa, dots yp, yq, yf⟩ RE.out.o (by first | (simp only at *; omega) | (simp only [List.length_nil] at *; omega))).mono ?_; rintro e1 wz ⟨rfl, hbz⟩
          have RZ := hid (RE.out.new hbz)
          clear hbz
          go_wp2_with fail
          go_ret
          refine ⟨?_, B2.out.trans (RZ.out.bel.mono B2.out.size)⟩
          have hE := E.out
          simp only [List.append_assoc] at hE
          rw [hE]
          try rfl
        · obtain ⟨c, hc⟩ : ∃ c, yp[0]'hpos = c := ⟨_, rfl⟩
          have hne : ¬ ((c.toNat : Int) = 47) := fun h => h3 (by rw [List.getElem?_eq_getElem hpos, hc]; exact congrArg some (UInt8.toNat_inj.1 (by show c.toNat = 47; omega)))
          have E := hid (show resolveP ⟨xs, xa, xp, xq, xf⟩ ⟨[], [], yp, yq, yf⟩ = xs ++ xa ++ dots (beside ⟨xs, xa, xp, xq, xf⟩ yp) ++ yq ++ yf by unfold resolveP; rw [if_neg (fun h => h rfl), if_neg (fun h => h rfl), if_neg h2, if_neg h3])
          clear h2 h3
          have hbe : (beside ⟨xs, xa, xp, xq, xf⟩ yp).length ≤ xp.length + yp.length + 1 := by
            unfold beside
            split
            · simp only [List.length_cons]; omega
            · rw [List.length_append, List.length_take]; simp only; omega
          generalize hbs : beside ⟨xs, xa, xp, xq, xf⟩ yp = N at hbe E
          have HB := hid hbs
          clear hbs
          have hdn := dots_len N
          go_wp2_with fail
          have hS := four_alloc w2 ⟨xs, xa, xp, xq, xf⟩ ⟨[], [], yp, yq, yf⟩
          unfold O5 ON at hS
          simp only at hS
          generalize (((w2.alloc (Obj.cells #[.string (B xs), .string (B xa), .string (B xp), .string (B xq), .string (B xf)] 26)).alloc (Obj.cells #[.string (B []), .string (B []), .string (B yp), .string (B yq), .string (B yf)] 26)).alloc (Obj.cells #[.string (B []), .string (B []), .string (B yp), .string (B yq), .string (B yf)] 26)).alloc (Obj.cells #[.string ⟨#[]⟩, .string ⟨#[]⟩, .string ⟨#[]⟩, .string ⟨#[]⟩, .string (B yf)] 26) = w3 at hS ⊢
          have RA := hid hS
          have BZ := hid B2.out.size
          clear hS
          refine wp_region_plan (fun w' => V5p w' w2.heap.size ⟨xs, xa, xp, xq, xf⟩ ∧ V5p w' (w2.heap.size + 1) ⟨[], [], yp, yq, yf⟩) (fun j => !([7, 8, 10, 12, 14].contains j)) (fun _ => false)
            (.of [0, 1, 2, 3, 4, 5, 6, 7, 8, 9, 10, 11, 12, 13, 14]) (by kernel_rfl) (by kernel_rfl) rfl (by kernel_rfl) (by kernel_rfl) ⟨RA.out.b, RA.out.r⟩ ?_
          apply wpPlan_val
          case ho => rfl
          case hst => rfl
          case hw => rfl
          case hv => intro w' hS; go_simp; first | done | rfl
          intro K hK
          go_simp
          refine hK _ ?_
          clear hK K
          apply wpPlan_val
          case ho => rfl
          case hst => rfl
          case hw => rfl
          case hv => intro w' hS; obtain ⟨c0, c1, c2, c3, c4, f0, f1, f2, f3, f4⟩ := five_cells hS.1; obtain ⟨d0, d1, d2, d3, d4, g0, g1, g2, g3, g4⟩ := five_cells hS.2; go_simp; first | done | rfl
          intro K hK
          go_simp
          refine hK _ ?_
          clear hK K
          apply wpPlan_val
          case ho => rfl
          case hst => rfl
          case hw => rfl
          case hv => intro w' hS; go_simp; first | done | rfl
          intro K hK
          go_simp
          refine hK _ ?_
          clear hK K
          apply wpPlan_val
          case ho => rfl
          case hst => rfl
          case hw => rfl
          case hv => intro w' hS; obtain ⟨c0, c1, c2, c3, c4, f0, f1, f2, f3, f4⟩ := five_cells hS.1; obtain ⟨d0, d1, d2, d3, d4, g0, g1, g2, g3, g4⟩ := five_cells hS.2; go_simp; first | done | rfl
          intro K hK
          go_simp
          refine hK _ ?_
          clear hK K
          apply wpPlan_val
          case ho => rfl
          case hst => rfl
          case hw => rfl
          case hv => intro w' hS; exact exec_load_arr 26 _ rfl _ Try.underlying26 rfl 5 (by kernel_rfl) w2.heap.size 0 26 [.string (B xs), .string (B xa), .string (B xp), .string (B xq), .string (B xf)] rfl hS.1 (by simp) [.string (B xs), .string (B xa), .string (B xp), .string (B xq), .string (B xf)] rfl
          intro K hK
          go_simp
          refine hK _ ?_
          clear hK K
          apply wpPlan_val
          case ho => rfl
          case hst => rfl
          case hw => rfl
          case hv => intro w' hS; go_simp; first | done | rfl
          intro K hK
          go_simp
          refine hK _ ?_
          clear hK K
          apply wpPlan_val
          case ho => rfl
          case hst => rfl
          case hw => rfl
          case hv => intro w' hS; obtain ⟨c0, c1, c2, c3, c4, f0, f1, f2, f3, f4⟩ := five_cells hS.1; obtain ⟨d0, d1, d2, d3, d4, g0, g1, g2, g3, g4⟩ := five_cells hS.2; go_simp; first | done | rfl
          intro K hK
          go_simp
          refine hK _ ?_
          clear hK K
          refine wpPlan_list rfl rfl rfl (fun K hK => ?_)
          refine wpList_step (fun K2 hK2 => ?_)
          go_simp
          refine (bes_any ⟨xs, xa, xp, xq, xf⟩ yp N HB.out _ (by simp only; omega) (by omega)).mono ?_; rintro e1 w4 ⟨rfl, hb4⟩
          have RB := hid (R3.new (wr := w3.drew) RA.out.drew hb4)
          clear hb4 RA
          go_simp
          refine hK2 _ _ ?_
          clear hK2 K2
          simp only [wpList]
          refine hK _ _ (fun _ => ⟨RB.out.b, RB.out.r⟩) ?_
          clear hK K
          refine wpPlan_list rfl rfl rfl (fun K hK => ?_)
          refine wpList_step (fun K2 hK2 => ?_)
          go_simp
          refine (straight_any N _ (by omega)).mono ?_; rintro e1 w5 ⟨rfl, hb4⟩
          have RC := hid (R3.new (wr := w4) RB.out hb4)
          clear hb4 RB
          go_simp
          refine hK2 _ _ ?_
          clear hK2 K2
          simp only [wpList]
          refine hK _ _ (fun _ => ⟨RC.out.b, RC.out.r⟩) ?_
          clear hK K
          apply wpPlan_val
          case ho => rfl
          case hst => rfl
          case hw => rfl
          case hv => intro w' hS; go_simp; first | done | rfl
          intro K hK
          go_simp
          refine hK _ ?_
          clear hK K
          refine wpPlan_list rfl rfl rfl (fun K hK => ?_)
          refine wpList_step (fun K2 hK2 => ?_)
          obtain ⟨c0, c1, c2, c3, c4, f0, f1, f2, f3, f4⟩ := five_cells RC.out.o
          go_simp
          clear c0 c1 c2 c3 c4 f0 f1 f2 f3 f4
          refine hK2 _ _ ?_
          clear hK2 K2
          simp only [wpList]
          have hR := (RC.out.set 0 (xs) ⟨xs, [], yp, yq, yf⟩ rfl)
          generalize (w5.setCell ⟨(w2.heap.size + 1 + 1), 0, none⟩ (.string (B (xs)))) = w6 at hR ⊢
          have RD := hid hR
          clear hR RC
          refine hK _ _ (fun _ => ⟨RD.out.b, RD.out.r⟩) ?_
          clear hK K
          apply wpPlan_val
          case ho => rfl
          case hst => rfl
          case hw => rfl
          case hv => intro w' hS; go_simp; first | done | rfl
          intro K hK
          go_simp
          refine hK _ ?_
          clear hK K
          refine wpPlan_list rfl rfl rfl (fun K hK => ?_)
          refine wpList_step (fun K2 hK2 => ?_)
          obtain ⟨c0, c1, c2, c3, c4, f0, f1, f2, f3, f4⟩ := five_cells RD.out.o
          go_simp
          clear c0 c1 c2 c3 c4 f0 f1 f2 f3 f4
          refine hK2 _ _ ?_
          clear hK2 K2
          simp only [wpList]
          have hR := (RD.out.set 1 (xa) ⟨xs, xa, yp, yq, yf⟩ rfl)
          generalize (w6.setCell ⟨(w2.heap.size + 1 + 1), 1, none⟩ (.string (B (xa)))) = w7 at hR ⊢
          have RE := hid hR
          clear hR RD
          refine hK _ _ (fun _ => ⟨RE.out.b, RE.out.r⟩) ?_
          clear hK K
          apply wpPlan_val
          case ho => rfl
          case hst => rfl
          case hw => rfl
          case hv => intro w' hS; go_simp; first | done | rfl
          intro K hK
          go_simp
          refine hK _ ?_
          clear hK K
          refine wpPlan_list rfl rfl rfl (fun K hK => ?_)
          refine wpList_step (fun K2 hK2 => ?_)
          obtain ⟨c0, c1, c2, c3, c4, f0, f1, f2, f3, f4⟩ := five_cells RE.out.o
          go_simp
          clear c0 c1 c2 c3 c4 f0 f1 f2 f3 f4
          refine hK2 _ _ ?_
          clear hK2 K2
          simp only [wpList]
          have hR := (RE.out.set 2 (dots N) ⟨xs, xa, dots N, yq, yf⟩ rfl)
          generalize (w7.setCell ⟨(w2.heap.size + 1 + 1), 2, none⟩ (.string (B (dots N)))) = w8 at hR ⊢
          have RF := hid hR
          clear hR RE
          refine hK _ _ (fun _ => ⟨RF.out.b, RF.out.r⟩) ?_
          clear hK K
          refine wpPlan_nil ?_
          simp only [Qn]
          obtain ⟨c0, c1, c2, c3, c4, f0, f1, f2, f3, f4⟩ := five_cells RF.out.o
          obtain ⟨d0, d1, d2, d3, d4, g0, g1, g2, g3, g4⟩ := five_cells RF.out.b
          obtain ⟨h0, h1, h2, h3, h4, m0, m1, m2, m3, m4⟩ := five_cells RF.out.r
          go_wp2_with fail
          clear c0 c1 c2 c3 c4 f0 f1 f2 f3 f4 d0 d1 d2 d3 d4 g0 g1 g2 g3 g4 h0 h1 h2 h3 h4 m0 m1 m2 m3 m4
          refine (join_any _ _ ⟨xs, xa, dots N, yq, yf⟩ RF.out.o (by first | (simp only at *; omega) | (simp only [List.length_nil] at *; omega))).mono ?_; rintro e1 wz ⟨rfl, hbz⟩
          have RZ := hid (RF.out.new hbz)
          clear hbz
          go_wp2_with fail
          go_ret
          refine ⟨?_, B2.out.trans (RZ.out.bel.mono B2.out.size)⟩
          have hE := E.out
          simp only [List.append_assoc] at hE
          rw [hE]
          try rfl
    · have b1 : (ya == []) = false := bno h1
      have E := hid (show resolveP ⟨xs, xa, xp, xq, xf⟩ ⟨[], ya, yp, yq, yf⟩ = xs ++ ya ++ dots yp ++ yq ++ yf by unfold resolveP; rw [if_neg (fun h => h rfl), if_pos h1])
      clear h1
      go_wp2_with fail
      have hS := four_alloc w2 ⟨xs, xa, xp, xq, xf⟩ ⟨[], ya, yp, yq, yf⟩
      unfold O5 ON at hS
      simp only at hS
      generalize (((w2.alloc (Obj.cells #[.string (B xs), .string (B xa), .string (B xp), .string (B xq), .string (B xf)] 26)).alloc (Obj.cells #[.string (B []), .string (B ya), .string (B yp), .string (B yq), .string (B yf)] 26)).alloc (Obj.cells #[.string (B []), .string (B ya), .string (B yp), .string (B yq), .string (B yf)] 26)).alloc (Obj.cells #[.string ⟨#[]⟩, .string ⟨#[]⟩, .string ⟨#[]⟩, .string ⟨#[]⟩, .string (B yf)] 26) = w3 at hS ⊢
      have RA := hid hS
      have BZ := hid B2.out.size
      clear hS
      refine wp_region_plan (fun w' => V5p w' w2.heap.size ⟨xs, xa, xp, xq, xf⟩ ∧ V5p w' (w2.heap.size + 1) ⟨[], ya, yp, yq, yf⟩) (fun j => !([4, 6, 8].contains j)) (fun _ => false)
        (.of [0, 1, 2, 3, 4, 5, 6, 7, 8]) (by kernel_rfl) (by kernel_rfl) rfl (by kernel_rfl) (by kernel_rfl) ⟨RA.out.b, RA.out.r⟩ ?_
      apply wpPlan_val
      case ho => rfl
      case hst => rfl
      case hw => rfl
      case hv => intro w' hS; go_simp; first | done | rfl
      intro K hK
      go_simp
      refine hK _ ?_
      clear hK K
      apply wpPlan_val
      case ho => rfl
      case hst => rfl
      case hw => rfl
      case hv => intro w' hS; obtain ⟨c0, c1, c2, c3, c4, f0, f1, f2, f3, f4⟩ := five_cells hS.1; obtain ⟨d0, d1, d2, d3, d4, g0, g1, g2, g3, g4⟩ := five_cells hS.2; go_simp; first | done | rfl
      intro K hK
      go_simp
      refine hK _ ?_
      clear hK K
      apply wpPlan_val
      case ho => rfl
      case hst => rfl
      case hw => rfl
      case hv => intro w' hS; go_simp; first | done | rfl
      intro K hK
      go_simp
      refine hK _ ?_
      clear hK K
      apply wpPlan_val
      case ho => rfl
      case hst => rfl
      case hw => rfl
      case hv => intro w' hS; obtain ⟨c0, c1, c2, c3, c4, f0, f1, f2, f3, f4⟩ := five_cells hS.1; obtain ⟨d0, d1, d2, d3, d4, g0, g1, g2, g3, g4⟩ := five_cells hS.2; go_simp; first | done | rfl
      intro K hK
      go_simp
      refine hK _ ?_
      clear hK K
      refine wpPlan_list rfl rfl rfl (fun K hK => ?_)
      refine wpList_step (fun K2 hK2 => ?_)
      go_simp
      refine (straight_any yp _ (by omega)).mono ?_; rintro e1 w4 ⟨rfl, hb4⟩
      have RB := hid (R3.new (wr := w3.drew) RA.out.drew hb4)
      clear hb4 RA
      go_simp
      refine hK2 _ _ ?_
      clear hK2 K2
      simp only [wpList]
      refine hK _ _ (fun _ => ⟨RB.out.b, RB.out.r⟩) ?_
      clear hK K
      apply wpPlan_val
      case ho => rfl
      case hst => rfl
      case hw => rfl
      case hv => intro w' hS; go_simp; first | done | rfl
      intro K hK
      go_simp
      refine hK _ ?_
      clear hK K
      refine wpPlan_list rfl rfl rfl (fun K hK => ?_)
      refine wpList_step (fun K2 hK2 => ?_)
      obtain ⟨c0, c1, c2, c3, c4, f0, f1, f2, f3, f4⟩ := five_cells RB.out.o
      go_simp
      clear c0 c1 c2 c3 c4 f0 f1 f2 f3 f4
      refine hK2 _ _ ?_
      clear hK2 K2
      simp only [wpList]
      have hR := (RB.out.set 0 (xs) ⟨xs, ya, yp, yq, yf⟩ rfl)
      generalize (w4.setCell ⟨(w2.heap.size + 1 + 1), 0, none⟩ (.string (B (xs)))) = w5 at hR ⊢
      have RC := hid hR
      clear hR RB
      refine hK _ _ (fun _ => ⟨RC.out.b, RC.out.r⟩) ?_
      clear hK K
      apply wpPlan_val
      case ho => rfl
      case hst => rfl
      case hw => rfl
      case hv => intro w' hS; go_simp; first | done | rfl
      intro K hK
      go_simp
      refine hK _ ?_
      clear hK K
      refine wpPlan_list rfl rfl rfl (fun K hK => ?_)
      refine wpList_step (fun K2 hK2 => ?_)
      obtain ⟨c0, c1, c2, c3, c4, f0, f1, f2, f3, f4⟩ := five_cells RC.out.o
      go_simp
      clear c0 c1 c2 c3 c4 f0 f1 f2 f3 f4
      refine hK2 _ _ ?_
      clear hK2 K2
      simp only [wpList]
      have hR := (RC.out.set 2 (dots yp) ⟨xs, ya, dots yp, yq, yf⟩ rfl)
      generalize (w5.setCell ⟨(w2.heap.size + 1 + 1), 2, none⟩ (.string (B (dots yp)))) = w6 at hR ⊢
      have RD := hid hR
      clear hR RC
      refine hK _ _ (fun _ => ⟨RD.out.b, RD.out.r⟩) ?_
      clear hK K
      refine wpPlan_nil ?_
      simp only [Qn]
      obtain ⟨c0, c1, c2, c3, c4, f0, f1, f2, f3, f4⟩ := five_cells RD.out.o
      obtain ⟨d0, d1, d2, d3, d4, g0, g1, g2, g3, g4⟩ := five_cells RD.out.b
      obtain ⟨h0, h1, h2, h3, h4, m0, m1, m2, m3, m4⟩ := five_cells RD.out.r
      go_wp2_with fail
      clear c0 c1 c2 c3 c4 f0 f1 f2 f3 f4 d0 d1 d2 d3 d4 g0 g1 g2 g3 g4 h0 h1 h2 h3 h4 m0 m1 m2 m3 m4
      refine (join_any _ _ ⟨xs, ya, dots yp, yq, yf⟩ RD.out.o (by first | (simp only at *; omega) | (simp only [List.length_nil] at *; omega))).mono ?_; rintro e1 wz ⟨rfl, hbz⟩
      have RZ := hid (RD.out.new hbz)
      clear hbz
      go_wp2_with fail
      go_ret
      refine ⟨?_, B2.out.trans (RZ.out.bel.mono B2.out.size)⟩
      have hE := E.out
      simp only [List.append_assoc] at hE
      rw [hE]
      try rfl
  · have b0 : (ys == []) = false := bno h0
    have E := hid (show resolveP ⟨xs, xa, xp, xq, xf⟩ ⟨ys, ya, yp, yq, yf⟩ = ys ++ ya ++ dots yp ++ yq ++ yf by unfold resolveP; rw [if_pos h0])
    clear h0
    go_wp2_with fail
    have hS := four_alloc w2 ⟨xs, xa, xp, xq, xf⟩ ⟨ys, ya, yp, yq, yf⟩
    unfold O5 ON at hS
    simp only at hS
    generalize (((w2.alloc (Obj.cells #[.string (B xs), .string (B xa), .string (B xp), .string (B xq), .string (B xf)] 26)).alloc (Obj.cells #[.string (B ys), .string (B ya), .string (B yp), .string (B yq), .string (B yf)] 26)).alloc (Obj.cells #[.string (B ys), .string (B ya), .string (B yp), .string (B yq), .string (B yf)] 26)).alloc (Obj.cells #[.string ⟨#[]⟩, .string ⟨#[]⟩, .string ⟨#[]⟩, .string ⟨#[]⟩, .string (B yf)] 26) = w3 at hS ⊢
    have RA := hid hS
    have BZ := hid B2.out.size
    clear hS
    refine (straight_any yp _ (by omega)).mono ?_; rintro e1 w4 ⟨rfl, hb4⟩
    have RB := hid (RA.out.new hb4)
    clear hb4 RA
    obtain ⟨c0, c1, c2, c3, c4, f0, f1, f2, f3, f4⟩ := five_cells RB.out.o
    obtain ⟨d0, d1, d2, d3, d4, g0, g1, g2, g3, g4⟩ := five_cells RB.out.b
    obtain ⟨h0, h1, h2, h3, h4, m0, m1, m2, m3, m4⟩ := five_cells RB.out.r
    go_wp2_with fail
    clear c0 c1 c2 c3 c4 f0 f1 f2 f3 f4 d0 d1 d2 d3 d4 g0 g1 g2 g3 g4 h0 h1 h2 h3 h4 m0 m1 m2 m3 m4
    have hR := RB.out.set 2 (dots yp) ⟨ys, ya, dots yp, yq, yf⟩ rfl
    generalize w4.setCell ⟨(w2.heap.size + 1 + 1), 2, none⟩ (.string (B (dots yp))) = w5 at hR ⊢
    have RC := hid hR
    clear hR RB
    refine (join_any _ _ ⟨ys, ya, dots yp, yq, yf⟩ RC.out.o (by first | (simp only at *; omega) | (simp only [List.length_nil] at *; omega))).mono ?_; rintro e1 wz ⟨rfl, hbz⟩
    have RZ := hid (RC.out.new hbz)
    clear hbz
    go_wp2_with fail
    go_ret
    refine ⟨?_, B2.out.trans (RZ.out.bel.mono B2.out.size)⟩
    have hE := E.out
    simp only [List.append_assoc] at hE
    rw [hE]
    try rfl
end Go.Proofs.Ytmelcnnpjooocaa
