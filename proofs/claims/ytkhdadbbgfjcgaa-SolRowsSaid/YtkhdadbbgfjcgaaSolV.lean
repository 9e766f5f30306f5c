/- rows of a text and a solution in a block: exchanged, turned. -/
import Derived.Test.YtkhdadbbgfjcgaaSolO
import Derived.Test.YtkhdadbbgfjcgaaSolY
import Derived.Test.YtkhdadbbgfjcgaaOrd2
namespace Go.Proofs.Ytkhdadbbgfjcgaa
open Go.RowKit
set_option linter.unusedVariables false

abbrev TR : TypeId := 59
abbrev Rw := Value × Sl
def rc (x : Rw) : List Value := [.string (B (textP x.2)), x.1]
def rcs (l : List Rw) : List Value := l.flatMap rc
theorem rc_length (x : Rw) : (rc x).length = 2 := rfl
theorem rcs_cons (x : Rw) (l : List Rw) : rcs (x :: l) = rc x ++ rcs l := rfl
theorem rcs_append (a b : List Rw) : rcs (a ++ b) = rcs a ++ rcs b := by simp [rcs]
theorem rcs_length : ∀ l : List Rw, (rcs l).length = l.length * 2
  | [] => rfl
  | x :: l => by rw [rcs_cons, List.length_append, rcs_length l, rc_length]; simp; omega
theorem rcs_get : ∀ {l : List Rw} {i : Nat} (hi : i < l.length) (j : Nat) (hj : j < 2), (rcs l)[i * 2 + j]? = (rc l[i])[j]?
  | x :: l, 0, _, j, hj => by
    rw [rcs_cons, Nat.zero_mul, Nat.zero_add, List.getElem?_append_left (by rw [rc_length]; exact hj)]; rfl
  | x :: l, i + 1, hi, j, hj => by
    rw [rcs_cons, List.getElem?_append_right (by rw [rc_length]; omega), rc_length, show (i + 1) * 2 + j - 2 = i * 2 + j by omega]
    exact rcs_get (by simpa using hi) j hj
theorem rcs_set : ∀ {l : List Rw} {i : Nat} (hi : i < l.length) (x : Rw) (r : List Value), splice (rcs l ++ r) (i * 2) (rc x) = rcs (l.set i x) ++ r
  | y :: l, 0, _, x, r => by simp [splice, rcs, rc]
  | y :: l, i + 1, hi, x, r => by
    have ih := rcs_set (l := l) (i := i) (by simpa using hi) x r
    rw [List.set_cons_succ, rcs_cons, rcs_cons, List.append_assoc, List.append_assoc, ← ih]
    unfold splice
    rw [show (i + 1) * 2 = (rc y).length + i * 2 by rw [rc_length]; omega, List.take_append, show (rc y).length + i * 2 + (rc x).length = (rc y).length + (i * 2 + (rc x).length) by omega, List.drop_append]
    rw [List.take_of_length_le (l := rc y) (by omega), List.drop_of_length_le (l := rc y) (by omega)]
    simp
def One1 (l : List Rw) : Prop := ∀ x ∈ l, x.1.oneCell' = true
theorem rc_one {x : Rw} (h : x.1.oneCell' = true) : ∀ u ∈ rc x, u.oneCell' = true := by
  intro u hu
  simp only [rc, List.mem_cons, List.not_mem_nil, or_false] at hu
  rcases hu with rfl | rfl
  · rfl
  · exact h

def Ro (w : World) (g : Nat) (l : List Rw) (r : List Value) : Prop := Blk w g (rcs l ++ r) TR
def RwAt (w : World) (g i : Nat) (x : Rw) : Prop := w.cell? ⟨g, i * 2, none⟩ = some (.string (B (textP x.2))) ∧ w.cell? ⟨g, i * 2 + 1, none⟩ = some x.1
theorem Ro.at {w : World} {g : Nat} {l : List Rw} {r : List Value} (h : Ro w g l r) {i : Nat} (hi : i < l.length) : RwAt w g i l[i] := by
  have e : ∀ j, j < 2 → (rcs l ++ r)[i * 2 + j]? = (rc l[i])[j]? := fun j hj => by
    rw [List.getElem?_append_left (by rw [rcs_length]; omega), rcs_get hi j hj]
  exact ⟨(Blk.cell h _).trans (e 0 (by omega)), (Blk.cell h _).trans (e 1 (by omega))⟩
theorem Ro.drew {w : World} {g : Nat} {l : List Rw} {r : List Value} (h : Ro w g l r) : Ro w.drew g l r := h
theorem Ro.lt {w : World} {g : Nat} {l : List Rw} {r : List Value} (h : Ro w g l r) : g < w.heap.size := Blk.lt h
theorem Ro.new {w w' : World} {g : Nat} {l : List Rw} {r : List Value} (h : Ro w g l r) (hb : Below w.heap.size w w') : Ro w' g l r := Blk.chg (fp := NoFp) h (Chg.new hb NoFp) (fun h => h)
theorem infoR : (Try.prog.info? TR).map (·.size) = some 2 := by kernel_rfl

/-- one row is written -/
theorem wpList_store_row {w : World} {ops : Array Oper} {rest : List Oper} {o : Oper} {a : Act} {Q : Exit → Act → World → Prop} (hgd : o.guard = none) (x y : Operand) (ho : o.op = .store TR x y)
    (g i : Nat) (l : List Rw) (r : List Value) (z : Rw) (hx : a.eval x = .pointer (some ⟨g, i * 2, none⟩)) (hy : a.eval y = .agg (rc z).toArray)
    (hg : Ro w g l r) (hi : i < l.length) (h1 : z.1.oneCell' = true)
    (h : ∀ w', Ro w' g (l.set i z) r → Chg (fun k => k = g) w w' → w'.heap.size = w.heap.size → wpList Try.prog ops Q rest (a.put o.dst undef) w') : wpList Try.prog ops Q (o :: rest) a w := by
  refine wpList_store_arr hgd TR x y ho 2 infoR g (i * 2) TR (rcs l ++ r) (rc z) hx hy hg rfl (by rw [List.length_append, rcs_length]; omega) (rc_one h1) (fun w' h2 h3 h4 => h w' ?_ h3 h4)
  rw [rcs_set hi] at h2
  exact h2

/-- two rows exchanged -/
theorem set2 {U V M : List Rw} {p x : Rw} {i j : Nat} (hi : i = U.length) (hj : j = U.length + 1 + M.length) : ((U ++ p :: (M ++ x :: V)).set i x).set j p = U ++ x :: (M ++ p :: V) := by
  subst hi; subst hj
  rw [List.set_append_right _ _ (Nat.le_refl _), Nat.sub_self, List.set_cons_zero, List.set_append_right _ _ (by omega), show U.length + 1 + M.length - U.length = M.length + 1 by omega, List.set_cons_succ,
    List.set_append_right _ _ (Nat.le_refl _), Nat.sub_self, List.set_cons_zero]
theorem get2 {U V : List Rw} {x : Rw} {i : Nat} (hi : i = U.length) : (U ++ x :: V)[i]? = some x := by subst hi; simp

set_option maxRecDepth 100000 in
set_option maxHeartbeats 4000000 in
theorem swapRange_any (X P M Q Y : List Rw) (r : List Value) (g a b n N c : Nat) (f : Value) (w : World) (h : Ro w g (X ++ (P ++ (M ++ (Q ++ Y)))) r) (h1 : One1 (X ++ (P ++ (M ++ (Q ++ Y)))))
    (hN : N = (X ++ (P ++ (M ++ (Q ++ Y)))).length) (hn : P.length = n) (hq : Q.length = n) (ha : a = X.length) (hb : b = X.length + n + M.length) (hlim : N ≤ 1000000) :
    Calls Try.prog 76 #[.slice (some ⟨g, 0, none⟩) N c, .int .i64 a, .int .i64 b, .int .i64 n, f] w fun e w' => e = .returned (.tuple #[]) ∧ Ro w' g (X ++ (Q ++ (M ++ (P ++ Y)))) r ∧ Chg (fun k => k = g) w w' := by
  have H := hid h
  have H1 := hid h1
  have HN := hid hN
  have hN2 : N = X.length + (n + (M.length + (n + Y.length))) := by rw [hN]; simp [hn, hq]
  clear h h1 hN
  go_enter Try.func76, Try.ntmps76
  go_wp2_with fail
  go_loopw [10] (fun vi wr => ∃ (i : Nat) (P1 P2 Q1 Q2 : List Rw), vi = .int .i64 i ∧ P1.length = i ∧ Q1.length = i ∧ Hid (P = P1 ++ P2) ∧ Hid (Q = Q1 ++ Q2) ∧ i ≤ n ∧ Hid (Ro wr g (X ++ ((Q1 ++ P2) ++ (M ++ ((P1 ++ Q2) ++ Y)))) r) ∧ Hid (Chg (fun k => k = g) w wr)) (fun vi _ => n + 1 - (intOf vi).toNat)
  case atStart => exact ⟨0, [], P, [], Q, rfl, rfl, rfl, rfl, rfl, Nat.zero_le _, H, Chg.refl _ _⟩
  case round =>
    obtain ⟨i, P1, P2, Q1, Q2, rfl, hp1, hq1, HP, HQ, hi, HO, HC⟩ := hrel
    by_cases hlt : i < n
    · have hlt2 : (i : Int) < (n : Int) := by omega
      cases P2 with
      | nil => exfalso; have := HP.out; rw [List.append_nil] at this; rw [this] at hn; omega
      | cons x P2 =>
      cases Q2 with
      | nil => exfalso; have := HQ.out; rw [List.append_nil] at this; rw [this] at hq; omega
      | cons y Q2 =>
      have hP2 : P1.length + (P2.length + 1) = n := by rw [← hn, HP.out]; simp
      have hQ2 : Q1.length + (Q2.length + 1) = n := by rw [← hq, HQ.out]; simp
      have hc1 : (a : Int) + (i : Int) = ((a + i : Nat) : Int) := by omega
      have hc2 : (b : Int) + (i : Int) = ((b + i : Nat) : Int) := by omega
      have hb1 : ((a + i : Nat) : Int) < (N : Int) := by omega
      have hb2 : ((b + i : Nat) : Int) < (N : Int) := by omega
      generalize hk1 : a + i = k1 at hc1 hb1
      generalize hk2 : b + i = k2 at hc2 hb2
      have hL : X ++ ((Q1 ++ x :: P2) ++ (M ++ ((P1 ++ y :: Q2) ++ Y))) = (X ++ Q1) ++ x :: ((P2 ++ (M ++ P1)) ++ y :: (Q2 ++ Y)) := by simp
      rw [hL] at HO
      have hx1 : x.1.oneCell' = true := H1.out x (by rw [HP.out]; simp)
      have hy1 : y.1.oneCell' = true := H1.out y (by rw [HQ.out]; simp)
      have hlen : ((X ++ Q1) ++ x :: ((P2 ++ (M ++ P1)) ++ y :: (Q2 ++ Y))).length = N := by simp; omega
      have hat1 : ((X ++ Q1) ++ x :: ((P2 ++ (M ++ P1)) ++ y :: (Q2 ++ Y)))[k1]? = some x := get2 (by simp; omega)
      have hat2 : ((X ++ Q1) ++ x :: ((P2 ++ (M ++ P1)) ++ y :: (Q2 ++ Y)))[k2]? = some y := by
        rw [← List.cons_append, ← List.append_assoc]; exact get2 (by simp; omega)
      have hset := set2 (U := X ++ Q1) (M := P2 ++ (M ++ P1)) (V := Q2 ++ Y) (p := x) (x := y) (i := k1) (j := k2) (by simp; omega) (by simp; omega)
      clear hL
      generalize hLL : (X ++ Q1) ++ x :: ((P2 ++ (M ++ P1)) ++ y :: (Q2 ++ Y)) = L at HO hlen hat1 hat2 hset
      have hkl1 : k1 < L.length := by omega
      have hkl2 : k2 < L.length := by omega
      have r1 := HO.out.at hkl1
      have r2 := HO.out.at hkl2
      rw [List.getElem?_eq_getElem hkl1] at hat1
      rw [List.getElem?_eq_getElem hkl2] at hat2
      injection hat1 with hat1
      injection hat2 with hat2
      rw [hat1] at r1
      rw [hat2] at r2
      have HR := hid (And.intro r1 r2)
      have HS := hid hset
      have HL := hid hLL
      have HN2 := hid hN2
      have HAA := hid ha
      have HBB := hid hb
      have HK1 := hid hk1
      have HK2 := hid hk2
      have HPQ := hid (And.intro hP2 hQ2)
      have HLEN := hid hlen
      have HP1 := hid (And.intro hp1 hq1)
      have HNQ := hid (And.intro hn hq)
      clear hat1 hat2 r1 r2 hset hLL hN2 ha hb hk1 hk2 hP2 hQ2 hlen hp1 hq1 hn hq
      go_wp2_with fail
      have hw1 : IntKind.i64.wrap (k1 : Int) = (k1 : Int) := IntWalk.i64_in _ (by omega)
      have hw2 : IntKind.i64.wrap (k2 : Int) = (k2 : Int) := IntWalk.i64_in _ (by omega)
      refine wp_region_plan2 (fun w' => RwAt w' g k1 x ∧ RwAt w' g k2 y) (fun j => !([21, 22, 23].contains j)) (fun j => [13, 19].contains j) (fun j => [21, 22, 23].contains j)
        [0, 1, 2, 3, 4, 5, 6, 7, 8, 9, 10, 11, 12, 13, 14, 15, 16, 17, 18, 19, 20, 21, 22, 23] (by kernel_rfl) (by kernel_rfl) rfl (by kernel_rfl) (by kernel_rfl) HR.out ?_
      iterate 21 (apply wpPlan2_val; (case ho => rfl); (case hst => rfl); (case hw => rfl); (case hv => intro w' hS; first | (obtain ⟨⟨c0, c1⟩, c2, c3⟩ := hS rfl; go_simp; first | done | rfl) | (clear hS; go_simp; first | done | rfl)); intro K hK; go_simp; refine hK _ ?_; clear hK K)
      refine wpPlan2_list rfl rfl rfl (fun K hK => ?_)
      refine wpList_store_row rfl _ _ rfl g k1 L r y rfl rfl HO.out hkl1 hy1 (fun w1 ho1 hc1 hs1 => ?_)
      have HO1 := hid ho1
      have HC1 := hid (HC.out.trans (Chg.drewN' (n := 1) hc1) (fun _ _ h => h))
      clear ho1 hc1
      go_simp
      simp only [wpList]
      refine hK _ _ (fun h => by cases h) ?_
      clear hK K
      refine wpPlan2_list rfl rfl rfl (fun K hK => ?_)
      refine wpList_step (fun K2 hK2 => ?_)
      go_simp
      refine hK2 _ _ ?_
      clear hK2 K2
      simp only [wpList]
      refine hK _ _ (fun h => by cases h) ?_
      clear hK K
      refine wpPlan2_list rfl rfl rfl (fun K hK => ?_)
      refine wpList_store_row rfl _ _ rfl g k2 (L.set k1 y) r x rfl rfl HO1.out (by rw [List.length_set]; exact hkl2) hx1 (fun w2 ho2 hc2 hs2 => ?_)
      rw [HS.out] at ho2
      have HO2 := hid ho2
      have HC2 := hid (HC1.out.trans hc2 (fun _ _ h => h))
      clear ho2 hc2
      go_simp
      simp only [wpList]
      refine hK _ _ (fun h => by cases h) ?_
      clear hK K
      refine wpPlan2_nil ?_
      simp only [Qn]
      go_wp2_with fail
      case roundEnd => exact ⟨⟨i + 1, P1 ++ [x], P2, Q1 ++ [y], Q2, by go_num, by have := HP1.out.1; simp; omega, by have := HP1.out.2; simp; omega, by rw [HP.out]; exact hid (by simp), by rw [HQ.out]; exact hid (by simp), by omega, by
        have := HO2.out
        simp only [List.append_assoc, List.cons_append, List.nil_append] at this ⊢
        exact this, HC2⟩, by simp [intOf]; omega⟩
    · have hlt2 : ¬ (i : Int) < (n : Int) := by omega
      have hp2 : P2 = [] := by
        have := congrArg List.length HP.out; rw [List.length_append] at this
        exact List.eq_nil_of_length_eq_zero (by omega)
      have hq2 : Q2 = [] := by
        have := congrArg List.length HQ.out; rw [List.length_append] at this
        exact List.eq_nil_of_length_eq_zero (by omega)
      subst hp2; subst hq2
      have e1 := HP.out
      have e2 := HQ.out
      rw [List.append_nil] at e1 e2
      subst e1; subst e2
      rw [List.append_nil, List.append_nil] at HO
      clear hn hq ha hb hN2 hp1 hq1
      go_wp2_with fail
      go_end0
      exact ⟨rfl, HO.out, HC.out⟩
end Go.Proofs.Ytkhdadbbgfjcgaa
