/- sol.Meet (printed by gen_solmeet.py). -/
import Derived.Test.YtkhdadbbgfjcgaaSolS
import Derived.Test.YtkhdadbbgfjcgaaOrd
namespace Go.Proofs.Ytkhdadbbgfjcgaa
open Go.RowKit
set_option linter.unusedVariables false

/-- a pair's cells -/
def CellsAt (w : World) (g o : Nat) (p : Pr) : Prop :=
  w.cell? ⟨g, o, none⟩ = some (.string (B p.1)) ∧ w.cell? ⟨g, o + 1, none⟩ = some (.int .i64 p.2.1) ∧ w.cell? ⟨g, o + 2, none⟩ = some (.string (B p.2.2.1)) ∧
    w.cell? ⟨g, o + 3, none⟩ = some (.string (B p.2.2.2.1)) ∧ w.cell? ⟨g, o + 4, none⟩ = some (.string (B p.2.2.2.2))
theorem SolAt.cellsAt {w : World} {g off n c : Nat} {s : Sl} (h : SolAt w (.slice (some ⟨g, off, none⟩) n c) s) {i : Nat} (hi : i < s.length) : CellsAt w g (off + i * 5) s[i] := by
  obtain ⟨b, o, he, h0, h1, h2, h3, h4⟩ := h.at hi
  cases he
  exact ⟨h0, h1, h2, h3, h4⟩
theorem OwnP.of_eq {B0 : Nat} {w : World} {v : Value} {s t : Sl} (h : OwnP B0 w v s) (e : s = t) : OwnP B0 w v t := e ▸ h

set_option maxRecDepth 100000 in
set_option maxHeartbeats 4000000 in
theorem meet_any (a b : Sl) (va vb : Value) (w : World) (n m : Nat) (ha : SolAt w va a) (hb : SolAt w vb b) (oa : OkS n a) (ob : OkS m b) (hn : n + m ≤ 200) :
    Calls Try.prog 47 #[va, vb] w (Res w.heap.size w (meetP a b)) := by
  obtain ⟨pa, ca, rfl⟩ := ha.shape
  obtain ⟨pb, cb, rfl⟩ := hb.shape
  have hal := oa.len
  have hbl := ob.len
  have HA := hid ha
  have HBB := hid hb
  have OA := hid oa
  have OB := hid ob
  clear ha hb oa ob
  go_enter Try.func47, Try.ntmps47
  go_wp2_with fail
  refine wp_scope_goto 0 (fun dd act wr => ∃ (i : Nat) (x : Sl) (p : Option Addr) (c : Nat) (p1 : Option Addr) (c1 : Nat) (u8 u9 u12 u13 u14 u15 u16 u17 u18 u19 u20 u21 u22 u23 u24 u25 u26 u27 u28 u29 u30 u31 u32 u33 u34 u35 u36 : Value), dd = b.length - i ∧ i ≤ b.length ∧ Hid (OwnP w.heap.size wr (.slice p x.length c) x) ∧ Hid (Below w.heap.size w wr) ∧ Hid (meetP x (b.drop i) = meetP a b) ∧ Hid (OkS (n + i) x) ∧
     act = ⟨#[.slice pa a.length ca, .slice pb b.length cb, undef, undef, .slice none 0 0, .bool false, .slice p x.length c, .int .i64 (i : Int), u8, u9, .slice pa a.length ca, .slice p1 a.length c1, u12, u13, u14, u15, u16, u17, u18, u19, u20, u21, u22, u23, u24, u25, u26, u27, u28, u29, u30, u31, u32, u33, u34, u35, u36], []⟩) rfl ?pass ?first
  case first =>
    intro K hK
    go_wp2_with fail
    refine (cloneP_any a _ w HA.out (by omega)).mono ?_; rintro e1 w1 ⟨p1, c1, rfl, ho1, hb1⟩
    have HO1 := hid ho1
    have HB1 := hid hb1
    clear ho1 hb1
    go_wp2_with fail
    refine wp_label ?_
    simp only [Exit.then]
    rename_i hK'
    exact hK' _ _ (hK _ _ _ ⟨0, a, p1, c1, p1, c1, _, _, _, _, _, _, _, _, _, _, _, _, _, _, _, _, _, _, _, _, _, _, _, _, _, _, _, rfl, Nat.zero_le _, HO1, HB1, hid (by rw [List.drop_zero]), hid (OA.out.mono (by omega)), rfl⟩)
  case pass =>
    rintro dd act wr ⟨i, x, p, c, p1, c1, u8, u9, u12, u13, u14, u15, u16, u17, u18, u19, u20, u21, u22, u23, u24, u25, u26, u27, u28, u29, u30, u31, u32, u33, u34, u35, u36, rfl, hi, HO, HB, HM, OX, rfl⟩ K hK
    have HK := hid hK; clear hK
    by_cases hlt : i < b.length
    · have hne : ¬ (i : Int) = (b.length : Int) := by omega
      have hlt2 : (i : Int) < (b.length : Int) := by omega
      obtain ⟨bb, off, rfl, _⟩ := HBB.out.cells (by omega)
      have HC := hid ((HBB.out.new HB.out).cellsAt hlt)
      have hdrop : b.drop i = b[i] :: b.drop (i + 1) := List.drop_eq_getElem_cons hlt
      have hok := OB.out.ok b[i] (List.getElem_mem hlt)
      have HD := hid hdrop
      have HQ := hid hok
      clear hdrop hok
      go_wp2_with fail
      refine wp_region_plan (fun w' => CellsAt w' bb (off + i * 5) b[i]) (fun j => !([11].contains j)) (fun _ => false)
        (.of [0, 1, 2, 3, 4, 5, 6, 7, 8, 9, 10, 11, 12, 13, 14, 15, 16]) (by kernel_rfl) (by kernel_rfl) rfl (by kernel_rfl) (by kernel_rfl) HC.out ?_
      iterate 11 (apply wpPlan_val; (case ho => rfl); (case hst => rfl); (case hw => rfl); (case hv => intro w' hS; obtain ⟨c0, c1, c2, c3, c4⟩ := hS; go_simp; first | done | rfl); intro K hK; go_simp; refine hK _ ?_; clear hK K)
      refine wpPlan_list rfl rfl rfl (fun K hK => ?_)
      refine wpList_step (fun K2 hK2 => ?_)
      go_simp
      have hx0 := OX.out
      have hxl := hx0.len
      refine (set_any x _ (b[i]).1 (b[i]).2 wr.drew (n + i) (show SolAt wr.drew _ x from HO.out.sol) hx0 (by omega) HQ.out.2).mono ?_
      rintro e2 w2 ⟨p2, c2, rfl, ho2, hb2⟩
      have hsz : w.heap.size ≤ wr.heap.size := HB.out.size
      have HB2 := hid ((HB.out.drew).trans (hb2.mono (by simpa using hsz)))
      have HC2 := hid ((HBB.out.new HB2.out).cellsAt hlt)
      have HO2 := hid ho2
      clear ho2 hb2
      go_simp
      refine hK2 _ _ ?_
      clear hK2 K2
      simp only [wpList]
      refine hK _ _ (fun _ => HC2.out) ?_
      clear hK K
      iterate 5 (apply wpPlan_val; (case ho => rfl); (case hst => rfl); (case hw => rfl); (case hv => intro w' hS; obtain ⟨c0, c1, c2, c3, c4⟩ := hS; go_simp; first | done | rfl); intro K hK; go_simp; refine hK _ ?_; clear hK K)
      refine wpPlan_nil ?_
      simp only [Qn]
      cases hset : setP x (b[i]).1 (b[i]).2 with
      | none =>
        rw [hset] at HO2
        have HS := hid hset
        clear hset
        go_wp2_with fail
        try rw [Exit.jump_ret]
        go_ret2
        have hm : meetP a b = none := by
          rw [← HM.out, HD.out]; exact meetP_none HS.out
        rw [hm]
        exact ⟨none, 0, rfl, World.ownsRow_nil _ _ _ _, HB2.out⟩
      | some y =>
        rw [hset] at HO2
        have HS := hid hset
        clear hset
        go_wp2_with fail
        refine wp_goto ?_
        simp only [Exit.jump, true_and]
        refine HK.out (b.length - (i + 1)) _ _ (by omega) ⟨i + 1, y, p2, c2, p1, c1, _, _, _, _, _, _, _, _, _, _, _, _, _, _, _, _, _, _, _, _, _, _, _, _, _, _, _, rfl, by omega, hid (HO2.out.base (by simpa using hsz)), HB2, hid ?_, hid ((hx0.set HQ.out.1 HQ.out.2 HS.out).mono (by omega)), by go_num⟩
        rw [← HM.out, HD.out]
        exact (meetP_some HS.out).symm
    · have hil : i = b.length := by omega
      have hil2 : (i : Int) = (b.length : Int) := by omega
      go_wp2_with fail
      try rw [Exit.jump_ret]
      go_ret2
      have hm : meetP a b = some x := by
        rw [← HM.out, hil, List.drop_length]; rfl
      rw [hm]
      exact ⟨p, c, rfl, HO.out, HB.out⟩
end Go.Proofs.Ytkhdadbbgfjcgaa
