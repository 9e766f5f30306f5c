/- SolSets (printed by gen_solsets.py). -/
import Derived.Test.YtkhdadbbgfjcgaaSolJp
import Derived.Test.YtkhdadbbgfjcgaaSolOa
namespace Go.Proofs.Ytkhdadbbgfjcgaa
open Go.RowKit
set_option linter.unusedVariables false

theorem set_same {s : Sl} {v : List UInt8} {t : T4} (ha : Asc s) (h : getP s v = some t) : setP s v t = some s := by
  have hs := setP_get (s := s) (v := v) (t := t) ha
  cases hx : setP s v t with
  | none => rw [hx] at hs; obtain ⟨t', h1, h2⟩ := hs; rw [h] at h1; injection h1 with h1; exact absurd h1.symm h2
  | some x =>
    rw [hx] at hs
    congr 1
    refine asc_ext (setP_asc ha hx) ha (fun u => ?_)
    rw [hs.2]
    by_cases hu : u = v
    · rw [if_pos hu, hu, h]
    · rw [if_neg hu]
theorem set_other {s : Sl} {v : List UInt8} {t t' : T4} (ha : Asc s) (h : getP s v = some t') (hne : t' ≠ t) : setP s v t = none := by
  have hs := setP_get (s := s) (v := v) (t := t) ha
  cases hx : setP s v t with
  | none => rfl
  | some x => rw [hx] at hs; exact absurd (hs.1 t' h) hne
theorem set_fresh {s : Sl} {v : List UInt8} (t : T4) (ha : Asc s) (h : getP s v = none) : ∃ x, setP s v t = some x ∧ x.length = s.length + 1 ∧ Asc x ∧ getP x v = some t ∧ ∀ p ∈ s, getP x p.1 = some p.2 := by
  have hs := setP_get (s := s) (v := v) (t := t) ha
  cases hx : setP s v t with
  | none => rw [hx] at hs; obtain ⟨t', h1, _⟩ := hs; rw [h] at h1; cases h1
  | some x =>
    rw [hx] at hs
    refine ⟨x, rfl, ?_, setP_asc ha hx, by rw [hs.2, if_pos rfl], fun p hp => ?_⟩
    · have hn : setP s v t = some (s.take (rk s v) ++ (v, t) :: s.drop (rk s v)) := setP_new (fun hh he => by
        have hg := getP_rk (v := v) ha
        rw [dif_pos hh, if_pos he, h] at hg
        cases hg)
      rw [hx] at hn
      injection hn with hn
      have := rk_le s v
      rw [hn]; simp; omega
    · have hg : getP s p.1 = some p.2 := mem_getP ha hp
      rw [hs.2, if_neg (fun e => by rw [e, h] at hg; cases hg)]
      exact hg
def TermIn (w : World) (g : Nat) (t : T4) : Prop := TermAt w g t ∧ g < w.heap.size
theorem TermIn.new {w w' : World} {g : Nat} {t : T4} (h : TermIn w g t) (hb : Below w.heap.size w w') : TermIn w' g t := ⟨h.1.new hb h.2, Nat.lt_of_lt_of_le h.2 hb.size⟩
theorem eql_t {w : World} {a b : T4} (oa : OkT a) (ob : OkT b) : (binOp .eql TT (.agg #[.int .i64 a.1, .string (B a.2.1), .string (B a.2.2.1), .string (B a.2.2.2)]) (.agg #[.int .i64 b.1, .string (B b.2.1), .string (B b.2.2.1), .string (B b.2.2.2)])).run Try.prog w = .ok (.bool (a == b)) w := run_t_eql oa ob
theorem guard_e (x y : Operand) (a b : Array Value) (w : World) : (eqGuard .eql TT x y (.agg a) (.agg b)).run Try.prog w = .ok () w := t_guard .eql (.inr rfl) x y a b w
def nm5 (k : Nat) : List UInt8 := ([[97], [98], [99], [100], [120]][k]?).getD []
abbrev lit5 : List Value := [.string ⟨#[97]⟩, .string ⟨#[98]⟩, .string ⟨#[99]⟩, .string ⟨#[100]⟩, .string ⟨#[120]⟩]
theorem lit5_get (k : Nat) (hk : k < 5) : lit5[k]? = some (.string (B (nm5 k))) := by
  rcases (show k = 0 ∨ k = 1 ∨ k = 2 ∨ k = 3 ∨ k = 4 by omega) with rfl | rfl | rfl | rfl | rfl <;> rfl
theorem nm5_len (k : Nat) : (nm5 k).length ≤ 100 := by
  by_cases h : k < 5
  · rcases (show k = 0 ∨ k = 1 ∨ k = 2 ∨ k = 3 ∨ k = 4 by omega) with rfl | rfl | rfl | rfl | rfl <;> decide
  · unfold nm5; rw [List.getElem?_eq_none (by simp; omega)]; simp
theorem termP15_ok (n : Int) : OkT (termP15 n) := tm_ok _
theorem term_blk {w : World} {t : T4} : TermIn (w.alloc (Obj.cells (tc t).toArray TT)) w.heap.size t := by
  have h : Blk (w.alloc (Obj.cells (tc t).toArray TT)) w.heap.size (tc t) TT := heap_alloc_new w _
  exact ⟨TermAt.of h, h.lt⟩
abbrev tvx (t : T4) : Value := .agg #[.int .i64 t.1, .string (B t.2.1), .string (B t.2.2.1), .string (B t.2.2.2)]

set_option maxRecDepth 100000 in
set_option maxHeartbeats 16000000 in
theorem solSets_walk (a0 a1 a2 a3 : Int) (w : World) (w0 : (Lit.int .i64 a0).wf = true) (w1 : (Lit.int .i64 a1).wf = true) (w2 : (Lit.int .i64 a2).wf = true) (w3 : (Lit.int .i64 a3).wf = true) :
    Calls Try.prog 6 #[.int .i64 a0, .int .i64 a1, .int .i64 a2, .int .i64 a3] w fun e w' => e = .returned (.bool true) ∧ Below w.heap.size w w' := by
  have HI := hid (i64_of_wf w0)
  have HB := hid (Below.refl w.heap.size w)
  clear w0 w1 w2 w3
  go_enter Try.func6, Try.ntmps6
  go_wp2_with fail
  refine (known_any w).mono ?_
  rintro e v1 ⟨rfl, hb⟩
  have HB_ := hid (HB.out.trans (hb.mono HB.out.size))
  clear HB
  have HB := HB_
  clear HB_
  clear hb
  go_wp2_with fail
  refine (oneSol_any a0 v1 HI.out.1 HI.out.2).mono ?_
  rintro e v2 ⟨ps, cs, rfl, ho, hb⟩
  have HB_ := hid (HB.out.trans (hb.mono HB.out.size))
  clear HB
  have HB := HB_
  clear HB_
  have HS := hid ho.sol
  have HOS := hid (oneP_ok a0)
  have HSE := hid (show oneP a0 = oneP a0 from rfl)
  clear ho
  obtain ⟨S, hS⟩ : ∃ S, oneP a0 = S := ⟨_, rfl⟩
  rw [hS] at HS HOS ⊢
  have HSQ := hid hS
  clear HSE hS
  have hSl := HOS.out.len
  clear hb
  go_wp2_with fail
  have hgl : Blk (v2.alloc (Obj.cells lit5.toArray 9)) v2.heap.size lit5 9 := heap_alloc_new v2 _
  have hb := (Below.refl v2.heap.size v2).alloc (Nat.le_refl _) (Obj.cells lit5.toArray 9)
  obtain ⟨v3, hw⟩ : ∃ x, v2.alloc (Obj.cells lit5.toArray 9) = x := ⟨_, rfl⟩
  obtain ⟨gl, hg⟩ : ∃ g, v2.heap.size = g := ⟨_, rfl⟩
  rw [hw] at hgl hb
  have hw' : v2.alloc (Obj.cells #[.string ⟨#[97]⟩, .string ⟨#[98]⟩, .string ⟨#[99]⟩, .string ⟨#[100]⟩, .string ⟨#[120]⟩] 9) = v3 := hw
  try simp only [hw']
  try simp only [hw]
  have HB_ := hid (HB.out.trans (hb.mono HB.out.size))
  clear HB
  have HB := HB_
  clear HB_
  have HS_ := hid (HS.out.new hb)
  clear HS
  have HS := HS_
  clear HS_
  rw [hg] at hgl
  simp only [hg]
  clear hb hw hw' hg
  refine (within16_any a1 5 v3 (by omega) (by omega)).mono ?_; rintro e v4 ⟨rfl, hw⟩; subst hw
  have h0 := Int.emod_nonneg a1 (show (5 : Int) ≠ 0 by omega)
  have h1 := Int.emod_lt_of_pos a1 (show (0 : Int) < 5 by omega)
  obtain ⟨k, hk⟩ : ∃ k : Nat, a1 % 5 = (k : Int) := ⟨(a1 % 5).toNat, by omega⟩
  rw [hk]
  have hk5 : k < 5 := by omega
  have hk52 : (k : Int) < 5 := by omega
  have hcell : v3.cell? ⟨gl, k, none⟩ = some (.string (B (nm5 k))) := (hgl.cell k).trans (lit5_get k hk5)
  have hvl := nm5_len k
  generalize nm5 k = V at *
  clear h0 h1 hk hgl
  have hTT : tv (termP15 a2) = tvx (termP15 a2) := rfl
  have hTU : tv (termP15 a3) = tvx (termP15 a3) := rfl
  have HOT := hid (termP15_ok a2)
  have HOU := hid (termP15_ok a3)
  generalize hT0 : termP15 a2 = T at hTT HOT
  generalize hU0 : termP15 a3 = U at hTU HOU
  have hTT := (congrArg tv hT0).trans hTT
  have hTU := (congrArg tv hU0).trans hTU
  clear hT0 hU0
  go_wp2_with fail
  refine (term15_any a2 v3).mono ?_
  rintro e v5 ⟨rfl, hb⟩
  rw [hTT]
  have HB_ := hid (HB.out.trans (hb.mono HB.out.size))
  clear HB
  have HB := HB_
  clear HB_
  have HS_ := hid (HS.out.new hb)
  clear HS
  have HS := HS_
  clear HS_
  clear hb
  clear hcell
  go_wp2_with fail
  refine (set_any S _ V T v5 4 HS.out HOS.out (by omega) HOT.out).mono ?_
  rintro e v6 ⟨px, cx, rfl, ho, hb⟩
  have HB_ := hid (HB.out.trans (hb.mono HB.out.size))
  clear HB
  have HB := HB_
  clear HB_
  have HS_ := hid (HS.out.new hb)
  clear HS
  have HS := HS_
  clear HS_
  have HX := hid ho.sol
  clear ho hb
  go_wp2_with fail
  refine (get_any S _ V v6 HS.out HOS.out.asc (by omega)).mono ?_
  rintro e v7 ⟨rfl, hb⟩
  have HB_ := hid (HB.out.trans (hb.mono HB.out.size))
  clear HB
  have HB := HB_
  clear HB_
  have HS_ := hid (HS.out.new hb)
  clear HS
  have HS := HS_
  clear HS_
  have HX_ := hid (HX.out.new hb)
  clear HX
  have HX := HX_
  clear HX_
  clear hb
  have hgt : tv (getT S V) = tvx (getT S V) := rfl
  have HGT := hid (show ∀ o, getP S V = some o → getT S V = o ∧ OkT o from fun o h => ⟨by unfold getT; rw [h]; rfl, (HOS.out.ok _ (getP_mem h)).2⟩)
  obtain ⟨o, hoo⟩ : ∃ o, getT S V = o := ⟨_, rfl⟩
  rw [hgt, hoo]
  have HOO := hid hoo
  clear hgt hoo
  cases hhad : getP S V with
  | some o' =>
    have ho' : o' = o := by rw [← HOO.out]; exact ((HGT.out o' hhad).1).symm
    subst ho'
    have HHAD := hid hhad
    have HOO' := hid (HGT.out o' hhad).2
    clear hhad
    simp only [Option.isSome_some]
    by_cases hot : o' = T
    · have hset := set_same (t := T) HOS.out.asc (by rw [HHAD.out, hot])
      rw [hset] at HX ⊢
      simp only [Option.getD_some, Option.isSome_some] at HX ⊢
      have heq := fun w => eql_t (w := w) HOO'.out HOT.out
      have hbe : (o' == T) = true := by rw [beq_iff_eq]; exact hot
      have hgd := guard_e
      clear hot hset
      go_wp2_with fail
      have hb := (Below.refl v7.heap.size v7).alloc (Nat.le_refl _) (Obj.cells (tc o').toArray TT)
      have HO := hid (term_blk (w := v7) (t := o'))
      obtain ⟨v8, hw⟩ : ∃ x, v7.alloc (Obj.cells (tc o').toArray TT) = x := ⟨_, rfl⟩
      obtain ⟨go1, hg⟩ : ∃ g, v7.heap.size = g := ⟨_, rfl⟩
      rw [hw] at hb HO
      have hw' : v7.alloc (Obj.cells #[.int .i64 o'.1, .string (B o'.2.1), .string (B o'.2.2.1), .string (B o'.2.2.2)] TT) = v8 := hw
      try simp only [hw']
      try simp only [hw]
      have HB_ := hid (HB.out.trans (hb.mono HB.out.size))
      clear HB
      have HB := HB_
      clear HB_
      have HS_ := hid (HS.out.new hb)
      clear HS
      have HS := HS_
      clear HS_
      have HX_ := hid (HX.out.new hb)
      clear HX
      have HX := HX_
      clear HX_
      rw [hg] at HO
      simp only [hg]
      clear hb hw hw' hg
      refine wp_region_plan2 (fun w' => TermIn w' go1 o') (fun j => !([3, 12].contains j)) (fun j => [1].contains j) (fun j => [].contains j)
        [0, 1, 2, 3, 4, 5, 6, 7, 8, 9, 10, 11, 12, 13, 14, 15, 16, 17, 18, 19, 20, 21, 22, 23] (by kernel_rfl) (by kernel_rfl) rfl (by kernel_rfl) (by kernel_rfl) HO.out ?_
      iterate 3 (apply wpPlan2_val; (case ho => rfl); (case hst => rfl); (case hw => rfl); (case hv => intro w' hS; first | (obtain ⟨⟨k0, k1, k2, k3⟩, _⟩ := hS rfl; go_simp; first | done | rfl) | (clear hS; go_simp; first | done | rfl)); intro K hK; go_simp; refine hK _ ?_; clear hK K)
      have HS_ : Hid (SolAt v8.drew (.slice ps S.length cs) S) := HS
      clear HS
      have HS := HS_
      clear HS_
      have HX_ : Hid (SolAt v8.drew (.slice px S.length cx) S) := HX
      clear HX
      have HX := HX_
      clear HX_
      have HO_ : Hid (TermIn v8.drew go1 o') := HO
      clear HO
      have HO := HO_
      clear HO_
      have HB_ : Hid (Below w.heap.size w v8.drew) := hid HB.out.drew
      clear HB
      have HB := HB_
      clear HB_
      obtain ⟨vd, hwd⟩ : ∃ x, v8.drew = x := ⟨_, rfl⟩
      rw [hwd] at HB HS HX HO ⊢
      clear hwd
      refine wpPlan2_list rfl rfl rfl (fun K hK => ?_)
      refine wpList_step (fun K2 hK2 => ?_)
      go_simp
      refine (term15_any a2 vd).mono ?_
      rintro e v9 ⟨rfl, hb⟩
      rw [hTT]
      have HB_ := hid (HB.out.trans (hb.mono HB.out.size))
      clear HB
      have HB := HB_
      clear HB_
      have HS_ := hid (HS.out.new hb)
      clear HS
      have HS := HS_
      clear HS_
      have HX_ := hid (HX.out.new hb)
      clear HX
      have HX := HX_
      clear HX_
      have HO_ := hid (HO.out.new hb)
      clear HO
      have HO := HO_
      clear HO_
      clear hb
      go_simp
      refine hK2 _ _ ?_
      clear hK2 K2
      simp only [wpList]
      refine hK _ _ (fun _ => HO.out) ?_
      clear hK K
      iterate 8 (apply wpPlan2_val; (case ho => rfl); (case hst => rfl); (case hw => rfl); (case hv => intro w' hS; first | (obtain ⟨⟨k0, k1, k2, k3⟩, _⟩ := hS rfl; go_simp; first | done | rfl) | (clear hS; go_simp; first | done | rfl)); intro K hK; go_simp; refine hK _ ?_; clear hK K)
      refine wpPlan2_list rfl rfl rfl (fun K hK => ?_)
      refine wpList_step (fun K2 hK2 => ?_)
      go_simp
      refine (one_any S S _ _ v9 4 HX.out HS.out HOS.out HOS.out (by omega)).mono ?_
      rintro e v10 ⟨rfl, hb⟩
      rw [decide_eq_true (rfl : S = S)]
      have HB_ := hid (HB.out.trans (hb.mono HB.out.size))
      clear HB
      have HB := HB_
      clear HB_
      have HS_ := hid (HS.out.new hb)
      clear HS
      have HS := HS_
      clear HS_
      have HX_ := hid (HX.out.new hb)
      clear HX
      have HX := HX_
      clear HX_
      have HO_ := hid (HO.out.new hb)
      clear HO
      have HO := HO_
      clear HO_
      clear hb
      go_simp
      refine hK2 _ _ ?_
      clear hK2 K2
      simp only [wpList]
      refine hK _ _ (fun _ => HO.out) ?_
      clear hK K
      iterate 5 (apply wpPlan2_val; (case ho => rfl); (case hst => rfl); (case hw => rfl); (case hv => intro w' hS; first | (obtain ⟨⟨k0, k1, k2, k3⟩, _⟩ := hS rfl; go_simp; first | done | rfl) | (clear hS; go_simp; first | done | rfl)); intro K hK; go_simp; refine hK _ ?_; clear hK K)
      iterate 3 (apply wpPlan2_off; (case ho => rfl); (case hst => rfl); (case hw => rfl); intro K hK; go_simp; refine hK _ ?_; clear hK K)
      iterate 3 (apply wpPlan2_val; (case ho => rfl); (case hst => rfl); (case hw => rfl); (case hv => intro w' hS; first | (obtain ⟨⟨k0, k1, k2, k3⟩, _⟩ := hS rfl; go_simp; first | done | rfl) | (clear hS; go_simp; first | done | rfl)); intro K hK; go_simp; refine hK _ ?_; clear hK K)
      refine wpPlan2_nil ?_
      simp only [Qn]
      go_wp2_with fail
      go_ret
      exact ⟨rfl, HB.out⟩
    · have hset := set_other (t := T) HOS.out.asc HHAD.out hot
      rw [hset] at HX ⊢
      simp only [Option.getD_none, Option.isSome_none, List.length_nil] at HX ⊢
      have heq := fun w => eql_t (w := w) HOO'.out HOT.out
      have hbe : (o' == T) = false := by rw [beq_eq_false_iff_ne]; exact hot
      have hgd := guard_e
      clear hot hset
      go_wp2_with fail
      have hb := (Below.refl v7.heap.size v7).alloc (Nat.le_refl _) (Obj.cells (tc o').toArray TT)
      have HO := hid (term_blk (w := v7) (t := o'))
      obtain ⟨v8, hw⟩ : ∃ x, v7.alloc (Obj.cells (tc o').toArray TT) = x := ⟨_, rfl⟩
      obtain ⟨go1, hg⟩ : ∃ g, v7.heap.size = g := ⟨_, rfl⟩
      rw [hw] at hb HO
      have hw' : v7.alloc (Obj.cells #[.int .i64 o'.1, .string (B o'.2.1), .string (B o'.2.2.1), .string (B o'.2.2.2)] TT) = v8 := hw
      try simp only [hw']
      try simp only [hw]
      have HB_ := hid (HB.out.trans (hb.mono HB.out.size))
      clear HB
      have HB := HB_
      clear HB_
      have HS_ := hid (HS.out.new hb)
      clear HS
      have HS := HS_
      clear HS_
      have HX_ := hid (HX.out.new hb)
      clear HX
      have HX := HX_
      clear HX_
      rw [hg] at HO
      simp only [hg]
      clear hb hw hw' hg
      refine wp_region_plan2 (fun w' => TermIn w' go1 o') (fun j => !([3].contains j)) (fun j => [1].contains j) (fun j => [].contains j)
        [0, 1, 2, 3, 4, 5, 6, 7, 8, 9, 10, 11, 12, 13, 14, 15, 16, 17, 18, 19, 20, 21, 22, 23] (by kernel_rfl) (by kernel_rfl) rfl (by kernel_rfl) (by kernel_rfl) HO.out ?_
      iterate 3 (apply wpPlan2_val; (case ho => rfl); (case hst => rfl); (case hw => rfl); (case hv => intro w' hS; first | (obtain ⟨⟨k0, k1, k2, k3⟩, _⟩ := hS rfl; go_simp; first | done | rfl) | (clear hS; go_simp; first | done | rfl)); intro K hK; go_simp; refine hK _ ?_; clear hK K)
      have HS_ : Hid (SolAt v8.drew (.slice ps S.length cs) S) := HS
      clear HS
      have HS := HS_
      clear HS_
      have HX_ : Hid (SolAt v8.drew (.slice px 0 cx) []) := HX
      clear HX
      have HX := HX_
      clear HX_
      have HO_ : Hid (TermIn v8.drew go1 o') := HO
      clear HO
      have HO := HO_
      clear HO_
      have HB_ : Hid (Below w.heap.size w v8.drew) := hid HB.out.drew
      clear HB
      have HB := HB_
      clear HB_
      obtain ⟨vd, hwd⟩ : ∃ x, v8.drew = x := ⟨_, rfl⟩
      rw [hwd] at HB HS HX HO ⊢
      clear hwd
      refine wpPlan2_list rfl rfl rfl (fun K hK => ?_)
      refine wpList_step (fun K2 hK2 => ?_)
      go_simp
      refine (term15_any a2 vd).mono ?_
      rintro e v9 ⟨rfl, hb⟩
      rw [hTT]
      have HB_ := hid (HB.out.trans (hb.mono HB.out.size))
      clear HB
      have HB := HB_
      clear HB_
      have HS_ := hid (HS.out.new hb)
      clear HS
      have HS := HS_
      clear HS_
      have HX_ := hid (HX.out.new hb)
      clear HX
      have HX := HX_
      clear HX_
      have HO_ := hid (HO.out.new hb)
      clear HO
      have HO := HO_
      clear HO_
      clear hb
      go_simp
      refine hK2 _ _ ?_
      clear hK2 K2
      simp only [wpList]
      refine hK _ _ (fun _ => HO.out) ?_
      clear hK K
      iterate 6 (apply wpPlan2_val; (case ho => rfl); (case hst => rfl); (case hw => rfl); (case hv => intro w' hS; first | (obtain ⟨⟨k0, k1, k2, k3⟩, _⟩ := hS rfl; go_simp; first | done | rfl) | (clear hS; go_simp; first | done | rfl)); intro K hK; go_simp; refine hK _ ?_; clear hK K)
      iterate 3 (apply wpPlan2_off; (case ho => rfl); (case hst => rfl); (case hw => rfl); intro K hK; go_simp; refine hK _ ?_; clear hK K)
      iterate 11 (apply wpPlan2_val; (case ho => rfl); (case hst => rfl); (case hw => rfl); (case hv => intro w' hS; first | (obtain ⟨⟨k0, k1, k2, k3⟩, _⟩ := hS rfl; go_simp; first | done | rfl) | (clear hS; go_simp; first | done | rfl)); intro K hK; go_simp; refine hK _ ?_; clear hK K)
      refine wpPlan2_nil ?_
      simp only [Qn]
      go_wp2_with fail
      go_ret
      exact ⟨rfl, HB.out⟩
  | none =>
    have HHAD := hid hhad
    clear hhad
    obtain ⟨X, hset, hXl, hXa, hXv, hXs⟩ := set_fresh T HOS.out.asc HHAD.out
    have HOX := hid (HOS.out.set hvl HOT.out hset)
    rw [hset] at HX ⊢
    simp only [Option.getD_some, Option.isSome_some, Option.isSome_none] at HX ⊢
    have HXL := hid hXl
    have HXA := hid hXa
    have HXV := hid hXv
    have HXS := hid hXs
    have HZ1 := hid (show T = U → setP X V U = some X from fun h => set_same hXa (by rw [hXv, h]))
    have HZ2 := hid (show T ≠ U → setP X V U = none from fun h => set_other hXa hXv h)
    clear hset hXl hXa hXv hXs
    obtain ⟨x, hx⟩ : ∃ x, X.length = x := ⟨_, rfl⟩
    have HXN := hid hx
    rw [hx] at HX ⊢
    have hxs : (S.length : Int) + 1 = (x : Int) := by have := HXL.out; omega
    have hxb : x ≤ 5 := by have := HXL.out; omega
    have hxw : IntKind.i64.wrap (x : Int) = (x : Int) := IntWalk.i64_in _ (by omega)
    clear hx
    go_wp2_with fail
    have hb := (Below.refl v7.heap.size v7).alloc (Nat.le_refl _) (Obj.cells (tc o).toArray TT)
    have HO := hid (term_blk (w := v7) (t := o))
    obtain ⟨v8, hw⟩ : ∃ x, v7.alloc (Obj.cells (tc o).toArray TT) = x := ⟨_, rfl⟩
    obtain ⟨go1, hg⟩ : ∃ g, v7.heap.size = g := ⟨_, rfl⟩
    rw [hw] at hb HO
    have hw' : v7.alloc (Obj.cells #[.int .i64 o.1, .string (B o.2.1), .string (B o.2.2.1), .string (B o.2.2.2)] TT) = v8 := hw
    try simp only [hw']
    try simp only [hw]
    have HB_ := hid (HB.out.trans (hb.mono HB.out.size))
    clear HB
    have HB := HB_
    clear HB_
    have HS_ := hid (HS.out.new hb)
    clear HS
    have HS := HS_
    clear HS_
    have HX_ := hid (HX.out.new hb)
    clear HX
    have HX := HX_
    clear HX_
    rw [hg] at HO
    simp only [hg]
    clear hb hw hw' hg
    clear HO
    refine (get_any X _ V v8 HX.out HXA.out (by rw [HXN.out]; omega)).mono ?_
    rintro e v9 ⟨rfl, hb⟩
    have HB_ := hid (HB.out.trans (hb.mono HB.out.size))
    clear HB
    have HB := HB_
    clear HB_
    have HS_ := hid (HS.out.new hb)
    clear HS
    have HS := HS_
    clear HS_
    have HX_ := hid (HX.out.new hb)
    clear HX
    have HX := HX_
    clear HX_
    clear hb
    have hgx : tv (getT X V) = tvx T := by unfold getT; rw [HXV.out]; rfl
    rw [hgx, HXV.out]
    simp only [Option.isSome_some]
    clear hgx
    go_wp2_with fail
    have hb := (Below.refl v9.heap.size v9).alloc (Nat.le_refl _) (Obj.cells (tc T).toArray TT)
    have HO := hid (term_blk (w := v9) (t := T))
    obtain ⟨v10, hw⟩ : ∃ x, v9.alloc (Obj.cells (tc T).toArray TT) = x := ⟨_, rfl⟩
    obtain ⟨go2, hg⟩ : ∃ g, v9.heap.size = g := ⟨_, rfl⟩
    rw [hw] at hb HO
    have hw' : v9.alloc (Obj.cells #[.int .i64 T.1, .string (B T.2.1), .string (B T.2.2.1), .string (B T.2.2.2)] TT) = v10 := hw
    try simp only [hw']
    try simp only [hw]
    have HB_ := hid (HB.out.trans (hb.mono HB.out.size))
    clear HB
    have HB := HB_
    clear HB_
    have HS_ := hid (HS.out.new hb)
    clear HS
    have HS := HS_
    clear HS_
    have HX_ := hid (HX.out.new hb)
    clear HX
    have HX := HX_
    clear HX_
    rw [hg] at HO
    simp only [hg]
    clear hb hw hw' hg
    refine (term15_any a3 v10).mono ?_
    rintro e v11 ⟨rfl, hb⟩
    rw [hTU]
    have HB_ := hid (HB.out.trans (hb.mono HB.out.size))
    clear HB
    have HB := HB_
    clear HB_
    have HS_ := hid (HS.out.new hb)
    clear HS
    have HS := HS_
    clear HS_
    have HX_ := hid (HX.out.new hb)
    clear HX
    have HX := HX_
    clear HX_
    have HO_ := hid (HO.out.new hb)
    clear HO
    have HO := HO_
    clear HO_
    clear hb
    go_wp2_with fail
    refine (set_any X _ V U v11 5 HX.out HOX.out (by omega) HOU.out).mono ?_
    rintro e v12 ⟨pz, cz, rfl, ho, hb⟩
    have HB_ := hid (HB.out.trans (hb.mono HB.out.size))
    clear HB
    have HB := HB_
    clear HB_
    have HS_ := hid (HS.out.new hb)
    clear HS
    have HS := HS_
    clear HS_
    have HX_ := hid (HX.out.new hb)
    clear HX
    have HX := HX_
    clear HX_
    have HO_ := hid (HO.out.new hb)
    clear HO
    have HO := HO_
    clear HO_
    have HZ := hid ho.sol
    clear ho hb
    have heq := fun w => eql_t (w := w) HOU.out HOT.out
    have hne : ∀ w, (binOp .neq TT (tvx T) (tvx T)).run Try.prog w = .ok (.bool false) w := fun w => by
      have h := eq_t (w := w) HOT.out HOT.out
      rw [show (T == T) = true from beq_self_eq_true T] at h
      exact h
    have hgd := guard_e
    have hgn := guard_t
    by_cases htu : T = U
    case' pos =>
      rw [HZ1.out htu] at HZ ⊢
      simp only [Option.getD_some, Option.isSome_some, HXN.out] at HZ ⊢
      have hbe : (U == T) = true := by rw [beq_iff_eq]; exact htu.symm
      clear htu
      go_wp2_with fail
      refine wp_region_plan2 (fun w' => TermIn w' go2 T) (fun j => !([9, 23, 25, 34].contains j)) (fun j => [7].contains j) (fun j => [].contains j)
        [0, 1, 2, 3, 4, 5, 6, 7, 8, 9, 10, 11, 12, 13, 14, 15, 16, 17, 18, 19, 20, 21, 22, 24, 23, 25, 26, 27, 28, 29, 30, 31, 32, 33, 34, 35, 36, 37] (by kernel_rfl) (by kernel_rfl) rfl (by kernel_rfl) (by kernel_rfl) HO.out ?_
      iterate 9 (apply wpPlan2_val; (case ho => rfl); (case hst => rfl); (case hw => rfl); (case hv => intro w' hS; first | (obtain ⟨⟨k0, k1, k2, k3⟩, _⟩ := hS rfl; go_simp; first | done | rfl) | (clear hS; go_simp; first | done | rfl)); intro K hK; go_simp; refine hK _ ?_; clear hK K)
      have HS_ : Hid (SolAt v12.drew (.slice ps S.length cs) S) := HS
      clear HS
      have HS := HS_
      clear HS_
      have HX_ : Hid (SolAt v12.drew (.slice px x cx) X) := HX
      clear HX
      have HX := HX_
      clear HX_
      have HO_ : Hid (TermIn v12.drew go2 T) := HO
      clear HO
      have HO := HO_
      clear HO_
      have HZ_ : Hid (SolAt v12.drew (.slice pz x cz) X) := HZ
      clear HZ
      have HZ := HZ_
      clear HZ_
      have HB_ : Hid (Below w.heap.size w v12.drew) := hid HB.out.drew
      clear HB
      have HB := HB_
      clear HB_
      obtain ⟨vd, hwd⟩ : ∃ x, v12.drew = x := ⟨_, rfl⟩
      rw [hwd] at HB HS HX HO HZ ⊢
      clear hwd
      refine wpPlan2_list rfl rfl rfl (fun K hK => ?_)
      refine wpList_step (fun K2 hK2 => ?_)
      go_simp
      refine (term15_any a2 vd).mono ?_
      rintro e v13 ⟨rfl, hb⟩
      rw [hTT]
      have HB_ := hid (HB.out.trans (hb.mono HB.out.size))
      clear HB
      have HB := HB_
      clear HB_
      have HS_ := hid (HS.out.new hb)
      clear HS
      have HS := HS_
      clear HS_
      have HX_ := hid (HX.out.new hb)
      clear HX
      have HX := HX_
      clear HX_
      have HO_ := hid (HO.out.new hb)
      clear HO
      have HO := HO_
      clear HO_
      have HZ_ := hid (HZ.out.new hb)
      clear HZ
      have HZ := HZ_
      clear HZ_
      clear hb
      go_simp
      refine hK2 _ _ ?_
      clear hK2 K2
      simp only [wpList]
      refine hK _ _ (fun _ => HO.out) ?_
      clear hK K
      iterate 14 (apply wpPlan2_val; (case ho => rfl); (case hst => rfl); (case hw => rfl); (case hv => intro w' hS; first | (obtain ⟨⟨k0, k1, k2, k3⟩, _⟩ := hS rfl; go_simp; first | done | rfl) | (clear hS; go_simp; first | done | rfl)); intro K hK; go_simp; refine hK _ ?_; clear hK K)
      refine wpPlan2_list rfl rfl rfl (fun K hK => ?_)
      refine wpList_step (fun K2 hK2 => ?_)
      go_simp
      refine (term15_any a3 v13).mono ?_
      rintro e v14 ⟨rfl, hb⟩
      rw [hTU]
      have HB_ := hid (HB.out.trans (hb.mono HB.out.size))
      clear HB
      have HB := HB_
      clear HB_
      have HS_ := hid (HS.out.new hb)
      clear HS
      have HS := HS_
      clear HS_
      have HX_ := hid (HX.out.new hb)
      clear HX
      have HX := HX_
      clear HX_
      have HO_ := hid (HO.out.new hb)
      clear HO
      have HO := HO_
      clear HO_
      have HZ_ := hid (HZ.out.new hb)
      clear HZ
      have HZ := HZ_
      clear HZ_
      clear hb
      go_simp
      refine hK2 _ _ ?_
      clear hK2 K2
      simp only [wpList]
      refine hK _ _ (fun _ => HO.out) ?_
      clear hK K
      refine wpPlan2_list rfl rfl rfl (fun K hK => ?_)
      refine wpList_step (fun K2 hK2 => ?_)
      go_simp
      refine (term15_any a2 v14).mono ?_
      rintro e v15 ⟨rfl, hb⟩
      rw [hTT]
      have HB_ := hid (HB.out.trans (hb.mono HB.out.size))
      clear HB
      have HB := HB_
      clear HB_
      have HS_ := hid (HS.out.new hb)
      clear HS
      have HS := HS_
      clear HS_
      have HX_ := hid (HX.out.new hb)
      clear HX
      have HX := HX_
      clear HX_
      have HO_ := hid (HO.out.new hb)
      clear HO
      have HO := HO_
      clear HO_
      have HZ_ := hid (HZ.out.new hb)
      clear HZ
      have HZ := HZ_
      clear HZ_
      clear hb
      go_simp
      refine hK2 _ _ ?_
      clear hK2 K2
      simp only [wpList]
      refine hK _ _ (fun _ => HO.out) ?_
      clear hK K
      iterate 8 (apply wpPlan2_val; (case ho => rfl); (case hst => rfl); (case hw => rfl); (case hv => intro w' hS; first | (obtain ⟨⟨k0, k1, k2, k3⟩, _⟩ := hS rfl; go_simp; first | done | rfl) | (clear hS; go_simp; first | done | rfl)); intro K hK; go_simp; refine hK _ ?_; clear hK K)
      refine wpPlan2_list rfl rfl rfl (fun K hK => ?_)
      refine wpList_step (fun K2 hK2 => ?_)
      go_simp
      refine (one_any X X _ _ v15 5 HZ.out HX.out HOX.out HOX.out (by omega)).mono ?_
      rintro e v16 ⟨rfl, hb⟩
      rw [decide_eq_true (rfl : X = X)]
      have HB_ := hid (HB.out.trans (hb.mono HB.out.size))
      clear HB
      have HB := HB_
      clear HB_
      have HS_ := hid (HS.out.new hb)
      clear HS
      have HS := HS_
      clear HS_
      have HX_ := hid (HX.out.new hb)
      clear HX
      have HX := HX_
      clear HX_
      have HO_ := hid (HO.out.new hb)
      clear HO
      have HO := HO_
      clear HO_
      have HZ_ := hid (HZ.out.new hb)
      clear HZ
      have HZ := HZ_
      clear HZ_
      clear hb
      go_simp
      refine hK2 _ _ ?_
      clear hK2 K2
      simp only [wpList]
      refine hK _ _ (fun _ => HO.out) ?_
      clear hK K
      iterate 3 (apply wpPlan2_val; (case ho => rfl); (case hst => rfl); (case hw => rfl); (case hv => intro w' hS; first | (obtain ⟨⟨k0, k1, k2, k3⟩, _⟩ := hS rfl; go_simp; first | done | rfl) | (clear hS; go_simp; first | done | rfl)); intro K hK; go_simp; refine hK _ ?_; clear hK K)
      refine wpPlan2_nil ?_
      simp only [Qn]
      clear HZ
    case' neg =>
      rw [HZ2.out htu] at HZ ⊢
      simp only [Option.getD_none, Option.isSome_none, List.length_nil] at HZ ⊢
      have hbe : (U == T) = false := by rw [beq_eq_false_iff_ne]; exact fun h => htu h.symm
      clear htu
      go_wp2_with fail
      refine wp_region_plan2 (fun w' => TermIn w' go2 T) (fun j => !([9, 23, 25].contains j)) (fun j => [7].contains j) (fun j => [].contains j)
        [0, 1, 2, 3, 4, 5, 6, 7, 8, 9, 10, 11, 12, 13, 14, 15, 16, 17, 18, 19, 20, 21, 22, 24, 23, 25, 26, 27, 28, 29, 30, 31, 32, 33, 34, 35, 36, 37] (by kernel_rfl) (by kernel_rfl) rfl (by kernel_rfl) (by kernel_rfl) HO.out ?_
      iterate 9 (apply wpPlan2_val; (case ho => rfl); (case hst => rfl); (case hw => rfl); (case hv => intro w' hS; first | (obtain ⟨⟨k0, k1, k2, k3⟩, _⟩ := hS rfl; go_simp; first | done | rfl) | (clear hS; go_simp; first | done | rfl)); intro K hK; go_simp; refine hK _ ?_; clear hK K)
      have HS_ : Hid (SolAt v12.drew (.slice ps S.length cs) S) := HS
      clear HS
      have HS := HS_
      clear HS_
      have HX_ : Hid (SolAt v12.drew (.slice px x cx) X) := HX
      clear HX
      have HX := HX_
      clear HX_
      have HO_ : Hid (TermIn v12.drew go2 T) := HO
      clear HO
      have HO := HO_
      clear HO_
      have HZ_ : Hid (SolAt v12.drew (.slice pz 0 cz) []) := HZ
      clear HZ
      have HZ := HZ_
      clear HZ_
      have HB_ : Hid (Below w.heap.size w v12.drew) := hid HB.out.drew
      clear HB
      have HB := HB_
      clear HB_
      obtain ⟨vd, hwd⟩ : ∃ x, v12.drew = x := ⟨_, rfl⟩
      rw [hwd] at HB HS HX HO HZ ⊢
      clear hwd
      refine wpPlan2_list rfl rfl rfl (fun K hK => ?_)
      refine wpList_step (fun K2 hK2 => ?_)
      go_simp
      refine (term15_any a2 vd).mono ?_
      rintro e v13 ⟨rfl, hb⟩
      rw [hTT]
      have HB_ := hid (HB.out.trans (hb.mono HB.out.size))
      clear HB
      have HB := HB_
      clear HB_
      have HS_ := hid (HS.out.new hb)
      clear HS
      have HS := HS_
      clear HS_
      have HX_ := hid (HX.out.new hb)
      clear HX
      have HX := HX_
      clear HX_
      have HO_ := hid (HO.out.new hb)
      clear HO
      have HO := HO_
      clear HO_
      have HZ_ := hid (HZ.out.new hb)
      clear HZ
      have HZ := HZ_
      clear HZ_
      clear hb
      go_simp
      refine hK2 _ _ ?_
      clear hK2 K2
      simp only [wpList]
      refine hK _ _ (fun _ => HO.out) ?_
      clear hK K
      iterate 14 (apply wpPlan2_val; (case ho => rfl); (case hst => rfl); (case hw => rfl); (case hv => intro w' hS; first | (obtain ⟨⟨k0, k1, k2, k3⟩, _⟩ := hS rfl; go_simp; first | done | rfl) | (clear hS; go_simp; first | done | rfl)); intro K hK; go_simp; refine hK _ ?_; clear hK K)
      refine wpPlan2_list rfl rfl rfl (fun K hK => ?_)
      refine wpList_step (fun K2 hK2 => ?_)
      go_simp
      refine (term15_any a3 v13).mono ?_
      rintro e v14 ⟨rfl, hb⟩
      rw [hTU]
      have HB_ := hid (HB.out.trans (hb.mono HB.out.size))
      clear HB
      have HB := HB_
      clear HB_
      have HS_ := hid (HS.out.new hb)
      clear HS
      have HS := HS_
      clear HS_
      have HX_ := hid (HX.out.new hb)
      clear HX
      have HX := HX_
      clear HX_
      have HO_ := hid (HO.out.new hb)
      clear HO
      have HO := HO_
      clear HO_
      have HZ_ := hid (HZ.out.new hb)
      clear HZ
      have HZ := HZ_
      clear HZ_
      clear hb
      go_simp
      refine hK2 _ _ ?_
      clear hK2 K2
      simp only [wpList]
      refine hK _ _ (fun _ => HO.out) ?_
      clear hK K
      refine wpPlan2_list rfl rfl rfl (fun K hK => ?_)
      refine wpList_step (fun K2 hK2 => ?_)
      go_simp
      refine (term15_any a2 v14).mono ?_
      rintro e v16 ⟨rfl, hb⟩
      rw [hTT]
      have HB_ := hid (HB.out.trans (hb.mono HB.out.size))
      clear HB
      have HB := HB_
      clear HB_
      have HS_ := hid (HS.out.new hb)
      clear HS
      have HS := HS_
      clear HS_
      have HX_ := hid (HX.out.new hb)
      clear HX
      have HX := HX_
      clear HX_
      have HO_ := hid (HO.out.new hb)
      clear HO
      have HO := HO_
      clear HO_
      have HZ_ := hid (HZ.out.new hb)
      clear HZ
      have HZ := HZ_
      clear HZ_
      clear hb
      go_simp
      refine hK2 _ _ ?_
      clear hK2 K2
      simp only [wpList]
      refine hK _ _ (fun _ => HO.out) ?_
      clear hK K
      iterate 6 (apply wpPlan2_val; (case ho => rfl); (case hst => rfl); (case hw => rfl); (case hv => intro w' hS; first | (obtain ⟨⟨k0, k1, k2, k3⟩, _⟩ := hS rfl; go_simp; first | done | rfl) | (clear hS; go_simp; first | done | rfl)); intro K hK; go_simp; refine hK _ ?_; clear hK K)
      iterate 4 (apply wpPlan2_off; (case ho => rfl); (case hst => rfl); (case hw => rfl); intro K hK; go_simp; refine hK _ ?_; clear hK K)
      iterate 2 (apply wpPlan2_val; (case ho => rfl); (case hst => rfl); (case hw => rfl); (case hv => intro w' hS; first | (obtain ⟨⟨k0, k1, k2, k3⟩, _⟩ := hS rfl; go_simp; first | done | rfl) | (clear hS; go_simp; first | done | rfl)); intro K hK; go_simp; refine hK _ ?_; clear hK K)
      refine wpPlan2_nil ?_
      simp only [Qn]
      clear HZ
    all_goals
      clear HO heq hne hgd hgn hbe hTT hTU
      go_wp2_with fail
      go_loopw [19] (fun vi wr => ∃ i : Nat, vi = .int .i64 i ∧ 1 ≤ i ∧ i ≤ x ∧ Hid (Below v16.heap.size v16 wr)) (fun vi _ => x + 1 - (intOf vi).toNat)
      case atStart => exact ⟨1, rfl, Nat.le_refl _, by have := HXL.out; have := HXN.out; omega, Below.refl _ _⟩
    all_goals
      obtain ⟨i, rfl, hi1, hix, HW⟩ := hrel
      by_cases hlt : i < x
      case' pos =>
        have hlt2 : (i : Int) < (x : Int) := by omega
        obtain ⟨j, hj⟩ : ∃ j : Nat, (i : Int) - 1 = (j : Int) := ⟨i - 1, by omega⟩
        have hjw : IntKind.i64.wrap (j : Int) = (j : Int) := IntWalk.i64_in _ (by omega)
        have hjx : (j : Int) < (x : Int) := by omega
        have hiX : i < X.length := by rw [HXN.out]; exact hlt
        have hjX : j < X.length := by omega
        have hX := HX.out.new HW.out
        obtain ⟨bx, ox, rfl, _⟩ := hX.cells (by omega)
        have ca := (hX.cellsAt hjX).1
        have cb := (hX.cellsAt hiX).1
        have hbl : Op.bytesLess (X[j]).1 (X[i]).1 = true := HXA.out.lt hiX (by omega)
        have HCC := hid (And.intro ca cb)
        clear hX ca cb
        generalize (X[j]).1 = na at *
        generalize (X[i]).1 = nb at *
        clear hiX hjX
        go_wp2_with fail
        refine wp_region_plan2 (fun w' => w'.cell? ⟨bx, ox + j * 5, none⟩ = some (.string (B na)) ∧ w'.cell? ⟨bx, ox + i * 5, none⟩ = some (.string (B nb))) (fun j => true) (fun j => [5, 10].contains j) (fun j => false)
          [0, 1, 2, 3, 4, 5, 6, 7, 8, 9, 10, 11] (by kernel_rfl) (by kernel_rfl) rfl (by kernel_rfl) (by kernel_rfl) HCC.out ?_
        iterate 12 (apply wpPlan2_val; (case ho => rfl); (case hst => rfl); (case hw => rfl); (case hv => intro w' hS; first | (obtain ⟨c0, d0⟩ := hS rfl; go_simp; first | done | rfl) | (clear hS; go_simp; first | done | rfl)); intro K hK; go_simp; refine hK _ ?_; clear hK K)
        refine wpPlan2_nil ?_
        simp only [Qn]
        go_wp2_with fail
        case roundEnd => exact ⟨⟨i + 1, by go_num, by omega, by omega, hid HW.out.drew⟩, by simp [intOf]; omega⟩
      case' neg =>
        have hlt2 : ¬ (i : Int) < (x : Int) := by omega
        have HSw := hid (HS.out.new HW.out)
        have HXw := hid (HX.out.new HW.out)
        have HB2 := hid (HB.out.trans (HW.out.mono HB.out.size))
        clear HS HX HB HW
        have HS := HSw
        have HX := HXw
        have HB := HB2
        clear HSw HXw HB2
        obtain ⟨v17, hwv⟩ : ∃ v, wr = v := ⟨_, rfl⟩
        rw [hwv] at HS HX HB ⊢
        clear hwv
        go_wp2_with fail
        go_loopw [20] (fun vi wr => ∃ i : Nat, vi = .int .i64 i ∧ i ≤ S.length ∧ Hid (Below v17.heap.size v17 wr)) (fun vi _ => S.length + 1 - (intOf vi).toNat)
        case atStart => exact ⟨0, rfl, Nat.zero_le _, Below.refl _ _⟩
    all_goals
      clear hi1 hix hlt hlt2
      obtain ⟨i, rfl, his, HW⟩ := hrel
      have hsz := HW.out.size
      by_cases hlt : i < S.length
      case' pos =>
        have hlt2 : (i : Int) < (S.length : Int) := by omega
        have hS := HS.out.new HW.out
        obtain ⟨bs, os, rfl, _⟩ := hS.cells (by omega)
        have hca := hS.cellsAt hlt
        have hmem : S[i] ∈ S := List.getElem_mem hlt
        have hok := HOS.out.ok _ hmem
        have hgx := HXS.out _ hmem
        have HX_ := hid (HX.out.new HW.out)
        obtain ⟨q, hq⟩ : ∃ q, S[i] = q := ⟨_, rfl⟩
        rw [hq] at hca hok hgx
        obtain ⟨c0, c1, c2, c3, c4⟩ := id hca
        have HCA := hid hca
        have HGX := hid hgx
        have hne : ∀ w, (binOp .neq TT (tvx q.2) (tvx q.2)).run Try.prog w = .ok (.bool false) w := fun w => by
          have h := eq_t (w := w) hok.2 hok.2
          rw [show (q.2 == q.2) = true from beq_self_eq_true q.2] at h
          exact h
        have hgn := guard_t
        clear hS hmem hok hgx hq hca
        go_wp2_with fail
        refine (get_any X _ q.1 wr HX_.out HXA.out (by rw [HXN.out]; omega)).mono ?_
        rintro e v18 ⟨rfl, hb⟩
        have HW2 := hid (HW.out.trans (hb.mono hsz))
        have HCA2 := hid (show CellsAt v18 bs (os + i * 5) q ∧ bs < v18.heap.size from ⟨HCA.out.new hb HCA.out.lt, Nat.lt_of_lt_of_le HCA.out.lt hb.size⟩)
        clear hb HX_ HCA c0 c1 c2 c3 c4
        have hgt : tv (getT X q.1) = tvx q.2 := by unfold getT; rw [HGX.out]; rfl
        rw [hgt, HGX.out]
        simp only [Option.isSome_some]
        clear hgt
        go_wp2_with fail
        have hb := (Below.refl v18.heap.size v18).alloc (Nat.le_refl _) (Obj.cells (tc q.2).toArray TT)
        have HT := hid (term_blk (w := v18) (t := q.2))
        obtain ⟨v19, hw⟩ : ∃ x, v18.alloc (Obj.cells (tc q.2).toArray TT) = x := ⟨_, rfl⟩
        obtain ⟨gt, hg⟩ : ∃ g, v18.heap.size = g := ⟨_, rfl⟩
        rw [hw] at hb HT
        have hw' : v18.alloc (Obj.cells #[.int .i64 q.2.1, .string (B q.2.2.1), .string (B q.2.2.2.1), .string (B q.2.2.2.2)] TT) = v19 := hw
        try simp only [hw']
        try simp only [hw]
        have HW3 := hid (HW2.out.trans (hb.mono HW2.out.size))
        have HSS := hid (show TermIn v19 gt q.2 ∧ CellsAt v19 bs (os + i * 5) q by
          rw [← hg]
          exact ⟨HT.out, HCA2.out.1.new hb HCA2.out.2⟩)
        simp only [hg]
        clear hb hw hw' hg HT HCA2 HW2
        refine wp_region_plan2 (fun w' => TermIn w' gt q.2 ∧ CellsAt w' bs (os + i * 5) q) (fun j => true) (fun j => [3, 8].contains j) (fun j => false)
          [0, 1, 2, 3, 4, 5, 6, 7, 8, 9, 10] (by kernel_rfl) (by kernel_rfl) rfl (by kernel_rfl) (by kernel_rfl) HSS.out ?_
        iterate 11 (apply wpPlan2_val; (case ho => rfl); (case hst => rfl); (case hw => rfl); (case hv => intro w' hS; first | (obtain ⟨⟨⟨k0, k1, k2, k3⟩, _⟩, m0, m1, m2, m3, m4⟩ := hS rfl; go_simp; first | done | rfl) | (clear hS; go_simp; first | done | rfl)); intro K hK; go_simp; refine hK _ ?_; clear hK K)
        refine wpPlan2_nil ?_
        simp only [Qn]
        go_wp2_with fail
        case roundEnd => exact ⟨⟨i + 1, by go_num, by omega, hid HW3.out.drew⟩, by simp [intOf]; omega⟩
      case' neg =>
        have hlt2 : ¬ (i : Int) < (S.length : Int) := by omega
        go_wp2_with fail
        refine (oneSol_any a0 wr HI.out.1 HI.out.2).mono ?_
        rintro e v20 ⟨pn, cn, rfl, ho, hb⟩
        rw [HSQ.out] at ho ⊢
        have HW2 := hid (HW.out.trans (hb.mono hsz))
        have HN := hid ho.sol
        clear ho hb
        go_wp2_with fail
        refine (one_any S S _ _ v20 4 (HS.out.new HW2.out) HN.out HOS.out HOS.out (by omega)).mono ?_
        rintro e v21 ⟨rfl, hb⟩
        rw [decide_eq_true (rfl : S = S)]
        have HW3 := hid (HW2.out.trans (hb.mono HW2.out.size))
        clear hb
        go_wp2_with fail
        refine (rText_any X _ v21 5 (HX.out.new HW3.out) HOX.out (by omega)).mono ?_
        rintro e v22 ⟨rfl, hb⟩
        have HW4 := hid (HW3.out.trans (hb.mono HW3.out.size))
        clear hb
        go_wp2_with fail
        refine (text_any X _ v22 5 (HX.out.new HW4.out) HOX.out (by omega)).mono ?_
        rintro e v23 ⟨rfl, hb⟩
        have HW5 := hid (HW4.out.trans (hb.mono HW4.out.size))
        clear hb
        go_wp2_with fail
        go_ret
        exact ⟨rfl, HB.out.trans (HW5.out.mono HB.out.size)⟩
end Go.Proofs.Ytkhdadbbgfjcgaa
