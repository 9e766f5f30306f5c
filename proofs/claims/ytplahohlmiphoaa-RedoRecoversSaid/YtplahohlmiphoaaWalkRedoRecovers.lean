/- triadlaw3.RedoRecovers: the walk. -/
import Derived.Test.YtplahohlmiphoaaPair3
import Derived.Test.YtplahohlmiphoaaBodies
import Derived.Test.YtplahohlmiphoaaGood
namespace Go.Proofs.Ytplahohlmiphoaa
open Go.RowKit
set_option linter.unusedVariables false

theorem tdiv3_in (a : Int) (h0 : -9223372036854775808 ≤ a) (h1 : a ≤ 9223372036854775807) : -9223372036854775808 ≤ a.tdiv 3 ∧ a.tdiv 3 ≤ 9223372036854775807 := by
  rcases Int.lt_or_le a 0 with h | h
  · have e : a.tdiv 3 = -((-a).tdiv 3) := by rw [Int.neg_tdiv, Int.neg_neg]
    rw [e, Int.tdiv_eq_ediv_of_nonneg (by omega)]
    omega
  · rw [Int.tdiv_eq_ediv_of_nonneg h]
    omega

theorem u8w_bd (z : Int) : 0 ≤ IntKind.u8.wrap z ∧ IntKind.u8.wrap z < 256 := by
  have h : IntKind.u8.wrap z = z % 256 := by simp [IntKind.wrap, IntKind.bits, IntKind.signed]
  rw [h]; omega

def headX (y : Int) : List UInt8 := markB ++ [UInt8.ofNat y.toNat, 0, 0, 0, 0, 0, 0, 0]

set_option maxRecDepth 100000 in
set_option maxHeartbeats 8000000 in
theorem redoRecovers_walk (a0 : Int) (a1 : Option Addr) (len1 cap1 : Nat) (z1 : List Int) (a2 : Option Addr) (len2 cap2 : Nat) (z2 : List (List UInt8)) (a3 : Option Addr) (len3 cap3 : Nat) (z3 : List Int) (a4 : Int)
    (w : World) (w0 : (Lit.int .i64 a0).wf = true) (w1 : IsRow .i64 w a1 len1 cap1 z1) (w2 : IsBodies w a2 len2 cap2 z2) (w3 : IsRow .u8 w a3 len3 cap3 z3) (w4 : (Lit.int .i64 a4).wf = true) :
    Calls Try.prog 5 #[.int .i64 a0, .slice a1 len1 cap1, .slice a2 len2 cap2, .slice a3 len3 cap3, .int .i64 a4] w fun e w' => e = .returned (.bool true) ∧ Below w.heap.size w w' := by
  obtain ⟨l3, hl3, hb3⟩ := w3.bytes
  subst hl3
  have H1 := hid w1.rd
  have H2 := hid w2
  have H3 := hid hb3
  have h3m : l3.length ≤ 9223372036854775807 := by
    obtain ⟨_, _, _, he, g1, g2, _⟩ := hb3
    cases he; simp only [maxLen] at g2; omega
  have h1m : len1 ≤ 9223372036854775807 := by
    obtain ⟨_, _, _, he, g1, g2, _⟩ := w1.rd
    cases he; simp only [maxLen] at g2; omega
  have h2m : len2 ≤ 9223372036854775807 := by have := w2.2.1; simp only [maxLen] at this; omega
  have hm0 : 0 ≤ a4 % 20 := Int.emod_nonneg _ (by omega)
  have hm1 : a4 % 20 < 20 := Int.emod_lt_of_pos _ (by omega)
  have E20 : Hid (∀ w, Calls Try.prog 11 #[.int .i64 a4, .int .i64 20] w fun e w' => e = .returned (.int .i64 (a4 % 20)) ∧ w = w') := hid (fun w => within3_any a4 20 w (by omega) (by omega))
  have hy0 : 0 ≤ (a0.tdiv 3) % 12 := Int.emod_nonneg _ (by omega)
  have hy1 : (a0.tdiv 3) % 12 < 12 := Int.emod_lt_of_pos _ (by omega)
  have E12 : Hid (∀ w, Calls Try.prog 11 #[.int .i64 (a0.tdiv 3), .int .i64 12] w fun e w' => e = .returned (.int .i64 ((a0.tdiv 3) % 12)) ∧ w = w') := hid (fun w => within3_any _ 12 w (by omega) (by omega))
  have hwf := i64_of_wf w0
  have hdv := tdiv3_in a0 hwf.1 hwf.2
  have hwq : IntKind.i64.wrap (a0.tdiv 3) = a0.tdiv 3 := by rw [IntKind.wrap_i64]; omega
  clear w0 w1 w2 w3 w4 hb3 hdv
  generalize a4 % 20 = M at *
  go_enter Try.func5, Try.ntmps5
  go_wp2_with fail
  refine (known3_any _).mono ?_; rintro e1 wk ⟨rfl, hbk⟩
  have BK := hid hbk
  clear hbk
  by_cases hc1 : 10 < len2
  · have hd1 : decide ((10 : Int) < (len2 : Int)) = true := by simp; omega
    go_wp2_with fail
    go_ret
    exact ⟨rfl, BK.out⟩
  have hd1 : decide ((10 : Int) < (len2 : Int)) = false := by simp; omega
  by_cases hc2 : 512 < l3.length
  · have hd2 : decide ((512 : Int) < (l3.length : Int)) = true := by simp; omega
    go_wp2_with fail
    go_ret
    exact ⟨rfl, BK.out⟩
  have hd2 : decide ((512 : Int) < (l3.length : Int)) = false := by simp; omega
  go_wp2_with fail
  refine (dNew_any _ _).mono ?_; rintro e1 w1 ⟨d, rfl, hd, hb1, hl⟩
  rw [show clampN 410 = 410 from by decide] at hd
  have D1 := hid hd
  have B1 := hid hb1
  clear hd hb1 hl
  go_wp2_with fail
  refine (xNew_any _ _).mono ?_; rintro e1 w2 ⟨x, rfl, hx, hb2, hl⟩
  rw [show clampN 410 = 410 from by decide] at hx
  have P2 : Hid (RPair (fun k => wk.heap.size ≤ k ∧ k < w2.heap.size) d x 410 0 w2 w2 (dNew 410) (fun k => wk.heap.size ≤ k ∧ k < w1.heap.size) (fun k => w1.heap.size ≤ k ∧ k < w2.heap.size)) := hid
    ⟨D1.out.chg (Chg.new hb2 NoFp) (fun _ _ h => h), hx, fun k h1 h2 => by omega, fun k hk => .inl (by have := hb2.size; omega), fun k hk => .inl (by have := B1.out.size; omega), Chg.refl _ _, by show (0 : Int) ≤ 0; omega⟩
  have B2 := hid (BK.out.trans ((B1.out.trans (hb2.mono B1.out.size)).mono BK.out.size))
  have S12 : Hid (w1.heap.size ≤ w2.heap.size) := hid hb2.size
  obtain ⟨F, hF⟩ : ∃ F : Nat → Prop, F = (fun k => wk.heap.size ≤ k ∧ k < w2.heap.size) := ⟨_, rfl⟩
  have FF : Hid (∀ k, F k → w.heap.size ≤ k) := hid (fun k hk => by rw [hF] at hk; have := BK.out.size; omega)
  rw [← hF] at P2
  clear hx hb2 hl D1
  clear hF
  by_cases h3 : 0 < a0.tmod 3
  case' pos =>
    have hcv := mark_lit w2
    go_wp2_with fail
    have hba : Below w2.heap.size w2 (w2.alloc (Obj.cells (bv markB).toArray 5 (8, 9))) := (Below.refl _ _).alloc (Nat.le_refl _) _
    have hbk := mark_read w2
    generalize w2.alloc (Obj.cells (bv markB).toArray 5 (8, 9)) = wa at *
    have BA := hid hba
    have BKA := hid hbk
    clear hba hbk hcv
    refine (E12.out _).mono ?_
    rintro e1 wx ⟨rfl, hw⟩
    subst hw
    generalize hyy : a0.tdiv 3 % 12 = y at *
    clear hyy
    have hyw : IntKind.u8.wrap y = y := by simp [IntKind.wrap, IntKind.bits, IntKind.signed]; omega
    go_wp2_with (at_builtin; refine wp_keep ?_)
    refine hid ?_
    have hx8 : [Value.int .u8 y, .int .u8 0, .int .u8 0, .int .u8 0, .int .u8 0, .int .u8 0, .int .u8 0, .int .u8 0] = bv [UInt8.ofNat y.toNat, 0, 0, 0, 0, 0, 0, 0] := by
      have h9 := u8_back y (by omega) (by omega)
      simp only [bv, List.map_cons, List.map_nil, h9]
      rfl
    have hrx : Rd (wa.alloc (Obj.cells #[Value.int .u8 y, .int .u8 0, .int .u8 0, .int .u8 0, .int .u8 0, .int .u8 0, .int .u8 0, .int .u8 0] 5)) 1 (.slice (some ⟨wa.heap.size, 0, none⟩) 8 8) 8 (bv [UInt8.ofNat y.toNat, 0, 0, 0, 0, 0, 0, 0]) := by
      rw [← hx8]
      exact Rd.fresh wa [Value.int .u8 y, .int .u8 0, .int .u8 0, .int .u8 0, .int .u8 0, .int .u8 0, .int .u8 0, .int .u8 0] 5 (by simp [maxLen])
    refine wpList_append_full rfl _ _ 26 rfl 5 _ 1 1 Try.underlying26 infoU8 rfl (by decide) ⟨w2.heap.size, 0, none⟩ 8 (bv markB) rfl (BKA.out.new ((Below.refl _ _).alloc (Nat.le_refl _) _)) _ 8 _ rfl hrx (by omega) (by simp only [maxLen]; omega) (by omega) ?_
    intro hp hc w5 hown5 hb5
    have B5 : Hid (Below w2.heap.size w2 w5) := hid ((BA.out.alloc BA.out.size (Obj.cells #[Value.int .u8 y, .int .u8 0, .int .u8 0, .int .u8 0, .int .u8 0, .int .u8 0, .int .u8 0, .int .u8 0] 5)).trans (hb5.mono (Nat.le_trans BA.out.size (by simp))))
    obtain ⟨l, hl⟩ : ∃ l, l = headX y := ⟨_, rfl⟩
    have V5 : Hid (Bs w5 (.slice hp (8 + 8) hc) l) := hid (by
      have h9 := Rd.of_own hown5
      rw [← bv_append] at h9
      rw [hl]
      exact h9)
    have VN : Hid (0 < l.length → ∀ g, Value.ownBlock (.slice hp (8 + 8) hc) = some g → ¬ (wk.heap.size ≤ g ∧ g < w1.heap.size)) := hid (fun _ g hg hf => by
      have h1 := (hown5.lt g hg).1
      have h2 := BA.out.size
      have h3 := S12.out
      simp at h1
      omega)
    have LL : Hid (l.length ≤ 512) := hid (by rw [hl]; simp [headX, markB])
    have P5 := hid (P2.out.new B5.out)
    clear hown5 hb5 hx8 hrx hl BA BKA
    go_wp2_with fail
  case' neg =>
    obtain ⟨w5, hw5⟩ : ∃ w5, w5 = w2 := ⟨_, rfl⟩
    obtain ⟨l, hl⟩ : ∃ l, l = l3 := ⟨_, rfl⟩
    have V5 : Hid (Bs w5 (.slice a3 l3.length cap3) l) := hid (by rw [hl, hw5]; exact H3.out.new B2.out)
    have VN : Hid (0 < l.length → ∀ g, Value.ownBlock (.slice a3 l3.length cap3) = some g → ¬ (wk.heap.size ≤ g ∧ g < w1.heap.size)) := hid (fun hz g hg hf => by
      have h1 := Rd.lt H3.out (by rw [← hl]; exact hz) (by decide) g hg
      have h2 := BK.out.size
      omega)
    have LL : Hid (l.length ≤ 512) := hid (by rw [hl]; omega)
    have P5 : Hid (RPair F d x 410 0 w2 w5 (dNew 410) (fun k => wk.heap.size ≤ k ∧ k < w1.heap.size) (fun k => w1.heap.size ≤ k ∧ k < w2.heap.size)) := hid (by rw [hw5]; exact P2.out)
    have hg3 : decide (0 < a0.tmod 3) = false := by rw [decide_eq_false_iff_not]; exact h3
    go_wp2_with fail
    rw [← hw5]
  all_goals (
    refine (dWrite_any w5 d _ 410 (dNew 410) 0 _ l P5.out.1 V5.out (by have := LL.out; omega) (by show (0 : Int) ≤ _; omega)).mono ?_
    rintro e1 w6 ⟨rfl, hto⟩
    have V6 := hid (V5.out.chg hto.choose_spec.2.1 (fun hz g hg _ hf => VN.out hz g hg hf))
    obtain ⟨fp6, hd6, hx6, hdj6, hf6, hch6⟩ := P5.out.one hto
    have T6 := hid (And.intro hd6 (And.intro hx6 (And.intro hdj6 (And.intro hf6 hch6))))
    have FX5 := hid P5.out.2.2.2.2.1
    have O6 : Hid ((dWrite 410 (dNew 410) 0 l).1.ops ≤ 1 + 2 * ((0 : Nat) : Int)) := hid (by have := doStp_ops 410 (dNew 410) (.write 0 l); have e : (dNew 410).ops = 0 := rfl; rw [e] at this; exact this)
    clear hd6 hx6 hdj6 hf6 hch6 hto
    go_wp2_with fail
    refine (xWrite_any w6 x _ 410 (dNew 410) 0 _ l T6.out.2.1 V6.out (by have := LL.out; omega) (by show (0 : Int) ≤ _; omega)).mono ?_
    rintro e1 w7 ⟨rfl, hto⟩
    obtain ⟨fx7, hp7⟩ := rpair_two T6.out.1 T6.out.2.1 T6.out.2.2.1 T6.out.2.2.2.1 FX5.out T6.out.2.2.2.2 hto O6.out
    have P7 := hid hp7
    have BF : Hid (∀ w', Chg F w2 w' → Below w.heap.size w w') := hid (fun w' hc => B2.out.trans (hc.below FF.out B2.out.size))
    clear hto hp7 T6 V5 V6 VN LL FX5 P5 O6
    generalize (dWrite 410 (dNew 410) 0 l).1 = s7 at *
    go_wp2_with fail
    go_loopw [14] (fun i wr => ∃ (j : Nat) (s : DS) (fp fx : Nat → Prop), j ≤ len2 ∧ i = .int .i64 j ∧ RPair F d x 410 (1 + 2 * (j : Int)) w2 wr s fp fx) (fun i _ => len2 + 1 - (intOf i).toNat)
    case atStart => exact ⟨0, s7, fp6, fx7, Nat.zero_le _, rfl, P7.out⟩
    case round =>
      obtain ⟨j, s, fp, fx, hj, rfl, hpr⟩ := hrel
      have PR := hid hpr
      have BW := hid (BF.out wr PR.out.2.2.2.2.2.1)
      clear hpr P7
      by_cases hlt : j < len2
      · obtain ⟨ab, ao, l, p, pc, rfl, hq, kb, hbs⟩ := H2.out.2.2 j hlt
        have hbs1 := hbs.new BW.out
        have kb1 : wr.cell? ⟨ab, ao + j, none⟩ = some (.slice p l.length pc) := (BW.out.cell (p := ⟨ab, ao + j, none⟩) (World.block_lt_of_cell? w ⟨ab, ao + j, none⟩ kb)).trans kb
        have VB := hid hbs1
        have VL : Hid (0 < l.length → ∀ g, Value.ownBlock (.slice p l.length pc) = some g → g < w.heap.size) := hid (fun hz g hg => Rd.lt hbs hz (by decide) g hg)
        have HK : Hid (∀ w', Below wr.heap.size wr w' → w'.cell? ⟨ab, ao + j, none⟩ = some (.slice p l.length pc)) := hid (fun w' hb => (hb.cell (p := ⟨ab, ao + j, none⟩) (World.block_lt_of_cell? wr ⟨ab, ao + j, none⟩ kb1)).trans kb1)
        obtain ⟨hlc, hln, hlm⟩ : l.length ≤ pc ∧ l.length ≤ 9223372036854775807 ∧ True := by
          obtain ⟨_, _, _, he, g1, g2, _⟩ := hbs
          cases he
          refine ⟨g1, ?_, trivial⟩
          simp only [maxLen] at g2; omega
        clear hq kb hbs hbs1 kb1
        by_cases hja : j < len1
        case' pos =>
          obtain ⟨y, hy⟩ : ∃ y, (z1.take len1)[j]? = some y := by
            have := H1.out.1
            exact ⟨_, List.getElem?_eq_getElem (by simp at this ⊢; omega)⟩
          obtain ⟨xb, xo, rfl, hxc⟩ := Rd.addr H1.out (by omega)
          have hxc0 := hxc j (.int .i64 y) (by rw [List.getElem?_map, hy]; rfl)
          have hxc1 : wr.cell? ⟨xb, xo + j, none⟩ = some (.int .i64 y) := (BW.out.cell (p := ⟨xb, xo + j, none⟩) (World.block_lt_of_cell? w ⟨xb, xo + j, none⟩ hxc0)).trans hxc0
          have hx0 : 0 ≤ y % 13 := Int.emod_nonneg _ (by omega)
          have hx1 : y % 13 < 13 := Int.emod_lt_of_pos _ (by omega)
          have E13 := hid (within3_any y 13 wr (by omega) (by omega))
          clear hxc hxc0 hy
          go_wp2_with fail
          refine E13.out.mono ?_; rintro e1 wx ⟨rfl, hw⟩
          subst hw
          clear E13 hxc1
          obtain ⟨t, ht, ht0, ht1⟩ : ∃ t, 399 + y % 13 = t ∧ 399 ≤ t ∧ t ≤ 411 := ⟨_, rfl, by omega, by omega⟩
          generalize y % 13 = yy at *
          go_wp2_with fail
          clear ht hx0 hx1
        case' neg =>
          have hjd : decide ((j : Int) < (len1 : Int)) = false := by rw [decide_eq_false_iff_not]; omega
          go_wp2_with fail
          obtain ⟨t, ht, ht0, ht1⟩ : ∃ t : Int, t = 405 ∧ 399 ≤ t ∧ t ≤ 411 := ⟨_, rfl, by omega, by omega⟩
          rw [← ht]
          clear ht
        all_goals (
          clear hja
          obtain ⟨hi, hmi, hil, hi5⟩ : ∃ hi : Nat, min (l.length : Int) 500 = (hi : Int) ∧ hi ≤ l.length ∧ hi ≤ 500 := ⟨min l.length 500, by omega, by omega, by omega⟩
          have hhc : hi ≤ pc := by omega
          have hlt' : (j : Int) < (len2 : Int) := by omega
          refine wp_region_plan (fun w' => w'.cell? ⟨ab, ao + j, none⟩ = some (.slice p l.length pc)) (fun j => !([5, 17, 18].contains j)) (fun j => [17, 18].contains j)
            (.of [0, 1, 2, 3, 4, 6, 7, 8, 9, 10, 11, 12, 13, 14, 15, 16, 5, 17, 18]) (by kernel_rfl) (by kernel_rfl) rfl (by kernel_rfl) (by kernel_rfl) (HK.out _ (below_drewN (Below.refl _ _) 1)) ?_
          iterate 16 (apply wpPlan_val; (case ho => rfl); (case hst => rfl); (case hw => rfl); (case hv => intro w' hS; go_simp; first | done | rfl); intro K hK; go_simp; refine hK _ ?_; clear hK K)
          have BD : Hid (Below wr.heap.size wr wr.drew) := hid (below_drewN (Below.refl _ _) 1)
          generalize wr.drew = wd at *
          refine wpPlan_list rfl rfl rfl (fun K hK => ?_)
          refine wpList_step (fun K2 hK2 => ?_)
          go_simp
          have hx8 : [Value.int .u8 (IntKind.u8.wrap t), .int .u8 (IntKind.u8.wrap (t / 256)), .int .u8 0, .int .u8 0, .int .u8 0, .int .u8 0, .int .u8 0, .int .u8 0] = bv [UInt8.ofNat (IntKind.u8.wrap t).toNat, UInt8.ofNat (IntKind.u8.wrap (t / 256)).toNat, 0, 0, 0, 0, 0, 0] := by
            have b1 := u8w_bd t
            have b2 := u8w_bd (t / 256)
            have h9 := u8_back _ b1.1 b1.2
            have h8 := u8_back _ b2.1 b2.2
            simp only [bv, List.map_cons, List.map_nil, h9, h8]
            rfl
          have BA := hid (BD.out.alloc BD.out.size (Obj.cells #[Value.int .u8 (IntKind.u8.wrap t), .int .u8 (IntKind.u8.wrap (t / 256)), .int .u8 0, .int .u8 0, .int .u8 0, .int .u8 0, .int .u8 0, .int .u8 0] 5))
          refine hK2 _ _ ?_
          clear hK2 K2
          simp only [wpList]
          refine hK _ _ (fun _ => HK.out _ BA.out) ?_
          clear hK K
          refine wpPlan_list rfl rfl rfl (fun K hK => ?_)
          refine wpList_append_rd rfl _ _ 26 rfl wd.heap.size 5 _ 1 1 Try.underlying26 infoU8 rfl (by decide) _ 8 [Value.int .u8 (IntKind.u8.wrap t), .int .u8 (IntKind.u8.wrap (t / 256)), .int .u8 0, .int .u8 0, .int .u8 0, .int .u8 0, .int .u8 0, .int .u8 0] rfl (own_fresh wd [Value.int .u8 (IntKind.u8.wrap t), .int .u8 (IntKind.u8.wrap (t / 256)), .int .u8 0, .int .u8 0, .int .u8 0, .int .u8 0, .int .u8 0, .int .u8 0] 5 8 rfl (by simp [maxLen]) _ (Nat.le_refl _)) _ hi (bv (l.take hi)) rfl (by have h9 := (Bs.upto VB.out hil).new BA.out; unfold Bs at h9; rw [List.length_take, Nat.min_eq_left hil] at h9; exact h9) (bv_one _) (by simp only [maxLen]; omega) (by omega) (by simp) ?_
          intro p8 c8 w8 hown8 hg8 hb8
          obtain ⟨bb, hbb⟩ : ∃ bb : List UInt8, bb = [UInt8.ofNat (IntKind.u8.wrap t).toNat, UInt8.ofNat (IntKind.u8.wrap (t / 256)).toNat, 0, 0, 0, 0, 0, 0] ++ l.take hi := ⟨_, rfl⟩
          have hbl : 8 + hi = bb.length := by rw [hbb]; simp; omega
          have hbl5 : bb.length ≤ 508 := by rw [← hbl]; omega
          rw [hx8, ← bv_append, ← hbb, hbl] at hown8
          rw [hbl]
          have V8 : Hid (Bs w8 (.slice p8 bb.length c8) bb) := hid (Rd.of_own hown8)
          have B8 : Hid (Below wr.heap.size wr w8) := hid (BA.out.grown hg8 BA.out.size (fun k hk => by cases hk; exact BD.out.size))
          have VL8 : Hid (∀ g, Value.ownBlock (.slice p8 bb.length c8) = some g → wr.heap.size ≤ g) := hid (fun g hg => Nat.le_trans BD.out.size (hown8.lt g hg).1)
          have P8 := hid (PR.out.new B8.out)
          clear hown8 hg8 hb8 hbb hbl hx8 BA
          simp only [wpList]
          refine hK _ _ (fun h => by cases h) ?_
          clear hK K
          refine wpPlan_list rfl rfl rfl (fun K hK => ?_)
          refine wpList_step (fun K2 hK2 => ?_)
          go_simp
          refine hK2 _ _ ?_
          clear hK2 K2
          simp only [wpList]
          refine hK _ _ (fun h => by cases h) ?_
          clear hK K
          refine wpPlan_nil ?_
          simp only [Qn]
          have hwj : IntKind.i64.wrap (1 + (j : Int)) = 1 + (j : Int) := by simp [IntKind.wrap, IntKind.bits, IntKind.signed]; omega
          have LP := hid PR.out.1.lt
          go_wp2_with fail
          refine (dWrite_any w8 d fp 410 s (1 + (j : Int)) _ bb P8.out.1 V8.out (by omega) (by have := PR.out.2.2.2.2.2.2; omega)).mono ?_
          rintro e1 w9 ⟨rfl, hto⟩
          have V9 := hid (V8.out.chg hto.choose_spec.2.1 (fun hz g hg _ hf => by
            have h1 := VL8.out g hg
            have h2 := LP.out g hf
            omega))
          obtain ⟨fp9, hd9, hx9, hdj9, hf9, hch9⟩ := P8.out.one hto
          have T9 := hid (And.intro hd9 (And.intro hx9 (And.intro hdj9 (And.intro hf9 hch9))))
          have FX9 := hid P8.out.2.2.2.2.1
          have O9 : Hid ((dWrite 410 s (1 + (j : Int)) bb).1.ops ≤ 1 + 2 * ((j + 1 : Nat) : Int)) := hid (by have h1 := doStp_ops 410 s (.write (1 + (j : Int)) bb); have h2 := PR.out.2.2.2.2.2.2; have h3 : (doStp 410 s (.write (1 + (j : Int)) bb)).1 = (dWrite 410 s (1 + (j : Int)) bb).1 := rfl; rw [h3] at h1; push_cast; omega)
          have OS := hid PR.out.2.2.2.2.2.2
          clear hd9 hx9 hdj9 hf9 hch9 hto P8 V8
          go_wp2_with fail
          refine (xWrite_any w9 x fx 410 s (1 + (j : Int)) _ bb T9.out.2.1 V9.out (by omega) (by have := OS.out; omega)).mono ?_
          rintro e1 w10 ⟨rfl, hto⟩
          obtain ⟨fx10, hp10⟩ := rpair_two T9.out.1 T9.out.2.1 T9.out.2.2.1 T9.out.2.2.2.1 FX9.out T9.out.2.2.2.2 hto O9.out
          have P10 := hid hp10
          clear hto hp10 T9 FX9 O9 OS
          go_wp2_with fail
          go_roundw
          case rel => exact ⟨j + 1, _, _, fx10, by omega, by go_num, P10.out⟩
          case measure => simp [intOf]; omega)
      · obtain rfl : j = len2 := by omega
        have hge : decide ((j : Int) < (j : Int)) = false := by simp
        go_wp2_with fail
        refine (dSync_any wr d fp 410 s PR.out.1 (by have := PR.out.2.2.2.2.2.2; omega)).mono ?_
        rintro e1 w8 ⟨rfl, hd8, hc8, hs8⟩
        obtain ⟨fp8, hd8, hx8, hdj8, hf8, hch8⟩ := PR.out.one ⟨fp, hd8, hc8, fun _ h => .inl h⟩
        have T8 := hid (And.intro hd8 (And.intro hx8 (And.intro hdj8 (And.intro hf8 hch8))))
        have FX8 := hid PR.out.2.2.2.2.1
        have O8 : Hid ((dSync s).1.ops ≤ 2 + 2 * (j : Int)) := hid (by have h1 := doStp_ops 410 s .sync; have h2 := PR.out.2.2.2.2.2.2; have h3 : (doStp 410 s .sync).1.ops = (dSync s).1.ops := rfl; omega)
        have OS := hid PR.out.2.2.2.2.2.2
        clear hd8 hx8 hdj8 hf8 hch8 hc8 hs8 PR
        go_wp2_with fail
        refine (xSync_any w8 x fx 410 s T8.out.2.1 (by have := OS.out; omega)).mono ?_
        rintro e1 w9 ⟨rfl, hd9, hc9, hs9⟩
        obtain ⟨fx9, hp9⟩ := rpair_two T8.out.1 T8.out.2.1 T8.out.2.2.1 T8.out.2.2.2.1 FX8.out T8.out.2.2.2.2 ⟨fx, hd9, hc9, fun _ h => .inl h⟩ O8.out
        have P9 := hid hp9
        clear hd9 hc9 hs9 hp9 T8 FX8 O8 OS
        generalize (dSync s).1 = s9 at *
        go_wp2_with fail
        refine (E20.out _).mono ?_; rintro e1 wx ⟨rfl, hw⟩
        subst hw
        go_wp2_with fail
        refine (dStop_any _ d fp8 410 s9 M P9.out.1 (by omega)).mono ?_
        rintro e1 w10 ⟨rfl, hd5, hc5, hs5⟩
        obtain ⟨fp10, hd6, hx6, hdj6, hf6, hch6⟩ := P9.out.one ⟨fp8, hd5, hc5, fun _ h => .inl h⟩
        have T10 := hid (And.intro hd6 (And.intro hx6 (And.intro hdj6 (And.intro hf6 hch6))))
        have FX9 := hid P9.out.2.2.2.2.1
        have O9 := hid P9.out.2.2.2.2.2.2
        clear hd5 hc5 hs5 hd6 hx6 hdj6 hf6 hch6 P9
        go_wp2_with fail
        refine (E20.out _).mono ?_; rintro e1 wx ⟨rfl, hw⟩
        subst hw
        go_wp2_with fail
        refine (xStop_any _ x fx9 410 s9 M T10.out.2.1 (by omega)).mono ?_
        rintro e1 w11 ⟨rfl, hd5, hc5, hs5⟩
        obtain ⟨fx11, hp11⟩ := rpair_two (m' := 2 + 2 * (j : Int)) T10.out.1 T10.out.2.1 T10.out.2.2.1 T10.out.2.2.2.1 FX9.out T10.out.2.2.2.2 ⟨fx9, hd5, hc5, fun _ h => .inl h⟩ O9.out
        have P11 := hid hp11
        clear hd5 hc5 hs5 T10 FX9 O9 hp11
        generalize { s9 with stop := max M 0 } = s11 at *
        go_wp2_with fail
        refine (recov_any w11 d fp10 410 s11 P11.out.1 (by have := P11.out.2.2.2.2.2.2; omega)).mono ?_
        rintro e1 w12 ⟨rfl, hto⟩
        obtain ⟨fp12, hd6, hx6, hdj6, hf6, hch6⟩ := P11.out.one hto
        have T12 := hid (And.intro hd6 (And.intro hx6 (And.intro hdj6 (And.intro hf6 hch6))))
        have FX11 := hid P11.out.2.2.2.2.1
        have O11 := hid P11.out.2.2.2.2.2.2
        clear hd6 hx6 hdj6 hf6 hch6 hto P11
        go_wp2_with fail
        refine (xrec_any w12 x fx11 410 s11 T12.out.2.1 (by have := O11.out; omega)).mono ?_
        rintro e1 w13 ⟨rfl, hto⟩
        obtain ⟨fx13, hp13⟩ := rpair_two (m' := (recov 410 s11).1.ops) T12.out.1 T12.out.2.1 T12.out.2.2.1 T12.out.2.2.2.1 FX11.out T12.out.2.2.2.2 hto (Int.le_refl _)
        have P13 := hid hp13
        clear hto hp13 T12 FX11 O11
        generalize recov 410 s11 = v at *
        go_wp2_with fail
        refine (same_any w13 d x fp12 fx13 410 v.1 P13.out.1 P13.out.2.1).mono ?_
        rintro e1 w14 ⟨rfl, hb14⟩
        have BZ := hid ((BF.out w13 P13.out.2.2.2.2.2.1).trans (hb14.mono (BF.out w13 P13.out.2.2.2.2.2.1).size))
        go_wp2_with fail
        go_ret
        exact ⟨rfl, BZ.out⟩)
end Go.Proofs.Ytplahohlmiphoaa
