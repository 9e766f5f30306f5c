/- triadlaw3.RedoWhole: the walk. -/
import Derived.Test.YtplahohlmiphoaaPureW
import Derived.Test.YtplahohlmiphoaaZer
namespace Go.Proofs.Ytplahohlmiphoaa
open Go.RowKit
set_option linter.unusedVariables false

/-- a disk among blocks that it had, and new ones -/
def DAt (d : Nat) (fp0 : Nat → Prop) (W w' : World) (fp : Nat → Prop) (s : DS) : Prop := Dsk w' d fp 420 s ∧ Chg fp0 W w' ∧ ∀ k, fp k → fp0 k ∨ W.heap.size ≤ k
theorem DAt.start {d : Nat} {fp : Nat → Prop} {w : World} {s : DS} (h : Dsk w d fp 420 s) : DAt d fp w w fp s := ⟨h, Chg.refl _ _, fun k h => .inl h⟩
theorem DAt.new {d : Nat} {fp0 fp : Nat → Prop} {W w' w'' : World} {s : DS} (h : DAt d fp0 W w' fp s) (hb : Below w'.heap.size w' w'') : DAt d fp0 W w'' fp s :=
  ⟨h.1.chg (Chg.new hb NoFp) (fun _ _ h => h), h.2.1.trans (Chg.new hb fp0) (fun _ _ h => h), h.2.2⟩
theorem DAt.step {d : Nat} {fp0 fp : Nat → Prop} {W w' w'' : World} {s s' : DS} (h : DAt d fp0 W w' fp s) (ht : DskTo w' d fp 420 s' w'') : ∃ fp', DAt d fp0 W w'' fp' s' := by
  obtain ⟨fp', h1, h2, h3⟩ := ht
  refine ⟨fp', h1, h.2.1.trans h2 (fun k hk hf => ?_), fun k hk => ?_⟩
  · rcases h.2.2 k hf with h4 | h4
    · exact h4
    · omega
  · rcases h3 k hk with h4 | h4
    · exact h.2.2 k h4
    · exact .inr (Nat.le_trans h.2.1.size h4)
theorem DAt.puts {d : Nat} {fp0 fp : Nat → Prop} {W w' : World} {s : DS} (h : DAt d fp0 W w' fp s) {a : Option Addr} {zs : List (Int × List UInt8)} (hp : IsPuts W fp0 a zs) (ho : PutsOut fp0 a) : IsPuts w' fp a zs ∧ (¬ zs.length = 0 → PutsOut fp a) := by
  refine ⟨hp.chg ho h.2.1 h.2.2, fun h0 ad had hf => ?_⟩
  rcases h.2.2 _ hf with h9 | h9
  · exact ho ad had h9
  · obtain ⟨ab, ao, q, p, pc, he, _, k0, _⟩ := hp 0 (by omega)
    rw [he] at had
    injection had with had
    subst had
    have h8 : ab < W.heap.size := World.block_lt_of_cell? W ⟨ab, ao + 0 * 2, none⟩ k0
    have h7 : W.heap.size ≤ ab := h9
    omega

theorem own_set {w : World} {base : Nat} {e : TypeId} {g n c k : Nat} {xs : List Value} (h : w.ownsRow base e 1 (.slice (some ⟨g, 0, none⟩) n c) n xs) (hk : k < n) (v : Value) :
    (w.setCell ⟨g, k, none⟩ v).ownsRow base e 1 (.slice (some ⟨g, 0, none⟩) n c) n (xs.set k v) := by
  refine ⟨by rw [List.length_set]; exact h.1, ?_⟩
  rcases h.2 with ⟨h5, _⟩ | ⟨g', cap, cur, h5, hb, hg, hnc, hcm, hcs, htake⟩
  · cases h5
  · cases h5
    refine .inr ⟨g, c, _, rfl, hb, heap_setCell_same _ _ _ _ _ _ hg, hnc, hcm, by simp [hcs], ?_⟩
    rw [Array.toList_setIfInBounds, List.take_set, htake]
theorem own_cell {w : World} {base : Nat} {e : TypeId} {g n c k : Nat} {xs : List Value} {v : Value} (h : w.ownsRow base e 1 (.slice (some ⟨g, 0, none⟩) n c) n xs) (hk : xs[k]? = some v) :
    w.cell? ⟨g, k, none⟩ = some v ∧ w.frozen? ⟨g, k, none⟩ = false := by
  have h9 := h.cells (g := g) rfl k v hk
  rw [Addr.add_off _ rfl, Nat.zero_add] at h9
  refine ⟨h9, ?_⟩
  rcases h.2 with ⟨h5, _⟩ | ⟨g', cap, cur, h5, hb, hg, _⟩
  · cases h5
  · cases h5
    exact frozen_of_row _ _ _ _ _ hg

theorem map_set_sv (A : List (List UInt8)) (k : Nat) (x : List UInt8) : (A.set k x).map sv = (A.map sv).set k (sv x) := by rw [List.map_set]

set_option maxRecDepth 100000 in
set_option maxHeartbeats 8000000 in
theorem redoWhole_walk (a0 : Option Addr) (len0 cap0 : Nat) (z0 : List (Int × List UInt8)) (a1 : Option Addr) (len1 cap1 : Nat) (z1 : List (Int × List UInt8)) (a2 : Int) (a3 : Option Addr) (len3 cap3 : Nat) (z3 : List Bool) (a4 : Option Addr) (len4 cap4 : Nat) (z4 : List Int)
    (w : World) (w0 : IsPutsA w a0 len0 cap0 z0) (w1 : IsPutsA w a1 len1 cap1 z1) (w2 : (Lit.int .i64 a2).wf = true) (w3 : IsBools w a3 len3 cap3 z3) (w4 : IsRow .i64 w a4 len4 cap4 z4) :
    Calls Try.prog 7 #[.slice a0 len0 cap0, .slice a1 len1 cap1, .int .i64 a2, .slice a3 len3 cap3, .slice a4 len4 cap4] w fun e w' => e = .returned (.bool true) ∧ Below w.heap.size w w' := by
  have H0 := hid w0
  have H1 := hid w1
  have H3 := hid w3
  have H4 := hid w4.rd
  have hl4 : len4 ≤ maxLen := by
    obtain ⟨_, _, _, he, h1, h2, _⟩ := w4.rd
    cases he; omega
  have hl4 : len4 ≤ 9223372036854775807 := by simp only [maxLen] at hl4; omega
  have hm0 : 0 ≤ a2 % 30 := Int.emod_nonneg _ (by omega)
  have hm1 : a2 % 30 < 30 := Int.emod_lt_of_pos _ (by omega)
  have E30 : Hid (∀ w, Calls Try.prog 11 #[.int .i64 a2, .int .i64 30] w fun e w' => e = .returned (.int .i64 (a2 % 30)) ∧ w = w') := hid (fun w => within3_any a2 30 w (by omega) (by omega))
  clear w0 w1 w2 w3 w4
  generalize a2 % 30 = M at *
  go_enter Try.func7, Try.ntmps7
  go_wp2_with fail
  refine (known3_any _).mono ?_; rintro e1 wk ⟨rfl, hbk⟩
  have BK := hid hbk
  clear hbk
  go_wp2_with fail
  refine (few3_any wk _ _ _ z0 (H0.out.keep BK.out)).mono ?_
  rintro e1 wx ⟨rfl, hw⟩
  subst hw
  generalize hf0 : fewOf z0 = b0
  cases b0 with
  | false =>
    go_wp2_with fail
    go_ret
    exact ⟨rfl, BK.out⟩
  | true =>
    go_wp2_with fail
    refine (few3_any wk _ _ _ z1 (H1.out.keep BK.out)).mono ?_
    rintro e1 wx ⟨rfl, hw⟩
    subst hw
    generalize hf1 : fewOf z1 = b1
    cases b1 with
    | false =>
      go_wp2_with fail
      go_ret
      exact ⟨rfl, BK.out⟩
    | true =>
      obtain ⟨hl0, hb0⟩ := fewOf_spec hf0
      obtain ⟨hl1, hb1⟩ := fewOf_spec hf1
      have HB0 := hid hb0
      have HB1 := hid hb1
      clear hf0 hf1 hb0 hb1
      go_wp2_with fail
      refine (dNew_any _ _).mono ?_; rintro e1 w1 ⟨d, rfl, hd, hb1, hl⟩
      rw [show clampN 420 = 420 from by decide] at hd
      have D1 := hid hd
      have B1 := hid (BK.out.trans (hb1.mono BK.out.size))
      clear hd hb1 hl
      go_wp2_with fail
      refine (good3_any w w1 a0 len0 cap0 z0 H0.out B1.out HB0.out (by omega)).mono ?_
      rintro e1 w2 ⟨ap, ac, abs, rfl, hpa⟩
      have PA := hid hpa
      have B2 := hid (B1.out.trans (hpa.2.2.2.1.mono B1.out.size))
      clear hpa
      go_wp2_with fail
      refine (good3_any w w2 a1 len1 cap1 z1 H1.out B2.out HB1.out (by omega)).mono ?_
      rintro e1 w3 ⟨bp, bc, bbs, rfl, hpb⟩
      have PB := hid hpb
      have B3 := hid (B2.out.trans (hpb.2.2.2.1.mono B2.out.size))
      have PA3 := hid ((PA.out.new hpb.2.2.2.1).puts2 (fp := fun k => wk.heap.size ≤ k ∧ k < w1.heap.size) (fun g hg hf => by have := BK.out.size; omega) (fun k hk => .inl hk.2))
      have PB3 := hid (PB.out.puts2 (fp := fun k => wk.heap.size ≤ k ∧ k < w1.heap.size) (fun g hg hf => by have := BK.out.size; omega) (fun k hk => .inl (Nat.lt_of_lt_of_le hk.2 PA.out.2.2.2.1.size)))
      have DA := hid (DAt.start (D1.out.chg (Chg.new (PA.out.2.2.2.1.trans (hpb.2.2.2.1.mono PA.out.2.2.2.1.size)) NoFp) (fun _ _ h => h)))
      have FK : Hid (∀ k, (wk.heap.size ≤ k ∧ k < w1.heap.size) → w.heap.size ≤ k) := hid (fun k hk => by have := BK.out.size; omega)
      have SPA := hid (goodOf_spec z0)
      have LKA : Hid (¬ (goodOf z0).length = 0 → LOk 420 (goodOf z0)) := hid (good_ok z0)
      have SPB := hid (goodOf_spec z1)
      have LKB : Hid (¬ (goodOf z1).length = 0 → LOk 420 (goodOf z1)) := hid (good_ok z1)
      have hgla : (goodOf z0).length ≤ 8 := SPA.out.1
      have hglb : (goodOf z1).length ≤ 8 := SPB.out.1
      clear hpb PA PB HB0 HB1 D1 B1 B2
      generalize goodOf z0 = G0 at *
      generalize goodOf z1 = G at *
      generalize hfp0 : (fun k => wk.heap.size ≤ k ∧ k < w1.heap.size) = fp0 at *
      have FK0 : Hid (∀ k, fp0 k → w.heap.size ≤ k) := hid (by subst hfp0; exact FK.out)
      clear FK hfp0
      rcases Nat.eq_zero_or_pos G0.length with hA | hA
      case' inl =>
        have hr : Rest 420 (dNew 420) (List.replicate (420 * 512) 0) := rest_new 420
        have hz : row (List.replicate (420 * 512) 0) 0 = z512 := row_zero (by omega)
        have hso : (dNew 420).ops ≤ 2010 ∧ (dNew 420).stop < 1 := ⟨by show (0 : Int) ≤ 2010; omega, by show (0 : Int) < 1; omega⟩
        generalize dNew 420 = s5 at *
        generalize List.replicate (420 * 512) (0 : UInt8) = K at *
        have RS := hid hr
        have RZ := hid hz
        have SO := hid hso
        obtain ⟨w5, hw5⟩ : ∃ w5, w5 = w3 := ⟨_, rfl⟩
        obtain ⟨fp5, hfp5⟩ : ∃ fp5, fp5 = fp0 := ⟨_, rfl⟩
        have D5 : Hid (DAt d fp0 w3 w5 fp5 s5) := hid (by rw [hw5, hfp5]; exact DA.out)
        have B5 : Hid (Below w.heap.size w w5) := hid (by rw [hw5]; exact B3.out)
        rw [← hw5]
        clear hr hz hso hw5 hfp5
        by_cases hG0 : G.length = 0
        · go_wp2_with fail
          go_ret
          exact ⟨rfl, B5.out⟩
        have hg0 : ((G.length : Int) == 0) = false := by rw [beq_eq_false_iff_ne]; omega
        go_wp2_with fail
      case' inr =>
        have lokA := LKA.out (by omega)
        obtain ⟨h1, h2⟩ := com_run lokA (rest_new 420) (row_zero (by omega))
        obtain ⟨e0, hst, hops⟩ := h2 (show (0 : Int) < 1 by omega)
        obtain ⟨K, hr, hpc⟩ : ∃ F, Rest 420 (cmt 420 (dNew 420) G0).1 F ∧ PC 420 G0 (List.replicate (420 * 512) 0) F := by
          rcases h1 with ⟨_, h1⟩ | ⟨e, _⟩
          · exact h1
          · omega
        have hpt := DA.out.puts PA3.out.1 PA3.out.2
        have hC := com_any w3 d fp0 420 (dNew 420) ap ac G0 DA.out.1 hpt.1 hpt.2 (by omega) (fun q hq => by have := SPA.out.2 q hq; omega) (fun q hq => wf_small (by have := SPA.out.2 q hq; omega) (by have := SPA.out.2 q hq; omega)) (show (0 : Int) + 3000 ≤ 1000000 by omega)
        have hso : (cmt 420 (dNew 420) G0).1.ops ≤ 2010 ∧ (cmt 420 (dNew 420) G0).1.stop < 1 := ⟨by rw [hops]; show (0 : Int) + _ ≤ 2010; omega, by rw [hst]; show (0 : Int) < 1; omega⟩
        rw [e0] at hC
        generalize (cmt 420 (dNew 420) G0).1 = s5 at *
        have HC := hid hC
        have RS := hid hr
        have RZ := hid hpc.1
        have SO := hid hso
        clear h1 h2 hst hops hr hpc e0 lokA hpt hC hso
        go_wp2_with fail
        refine HC.out.mono ?_
        rintro e1 w5 ⟨rfl, hto⟩
        obtain ⟨fp5, hd5⟩ := DA.out.step hto
        have D5 := hid hd5
        have B5 := hid (B3.out.trans (hd5.2.1.below FK0.out B3.out.size))
        clear hto hd5 HC
        by_cases hG0 : G.length = 0
        · go_wp2_with fail
          go_ret
          exact ⟨rfl, B5.out⟩
        have hg0 : ((G.length : Int) == 0) = false := by rw [beq_eq_false_iff_ne]; omega
        go_wp2_with fail
      all_goals (
        have lok := LKB.out hG0
        have LOK := hid lok
        clear lok
        refine (homes3_any w5 d fp5 420 s5 D5.out.1 RS.out.alive).mono ?_
        rintro e1 w6 ⟨hv, rfl, ho6, hb6⟩
        obtain ⟨hp, hc, rfl⟩ := own_shape ho6
        rw [RS.out.now] at ho6
        have HB := hid ho6
        have D6 := hid (D5.out.new hb6)
        have B6 := hid (B5.out.trans (hb6.mono B5.out.size))
        have S56 : Hid (w5.heap.size ≤ w6.heap.size) := hid hb6.size
        have L5 := hid D5.out.1.lt
        clear ho6 hb6
        go_wp2_with (at_builtin; refine wp_keep ?_)
        refine hid ?_
        refine wpList_append_rd rfl _ _ 57 rfl w6.heap.size 9 _ 1 16 Try.underlying57 strInfo rfl (by decide) _ 0 [] rfl (own_fresh _ _ _ 0 rfl (by simp [maxLen]) _ (Nat.le_refl _)) _ 19 ((homesL 420 K).map sv) rfl ((Rd.of_own HB.out).new ((Below.refl _ _).alloc (Nat.le_refl _) _)) (fun u hu => by obtain ⟨x, _, rfl⟩ := List.mem_map.1 hu; rfl) (by simp only [maxLen]; omega) (by omega) (by simp) ?_
        intro pp cc w7 hown7 hg7 hb7
        rw [List.nil_append, Nat.zero_add] at hown7
        obtain ⟨ag, rfl⟩ : ∃ ag, pp = some ⟨ag, 0, none⟩ := by
          rcases hown7.2 with ⟨_, h6⟩ | ⟨g, cap, cur, h5, _⟩
          · omega
          · injection h5 with h5 _ _
            exact ⟨g, h5⟩
        have B67 := hid (((Below.refl w6.heap.size w6).alloc (Nat.le_refl _) (.cells #[] 9)).grown hg7 (by simp) (by intro k hk; cases hk; exact Nat.le_refl _))
        have AF7 := hid hown7
        have A0 : Hid (w7.ownsRow w6.heap.size 9 1 (.slice (some ⟨ag, 0, none⟩) 19 cc) 19 ((afterOf (G.take 0) (homesL 420 K)).map sv)) := hid hown7
        have PB6 := hid (D6.out.puts PB3.out.1 PB3.out.2)
        clear hown7 hg7 hb7
        go_wp2_with fail
        go_loopw [16] (fun i wr => ∃ j : Nat, j ≤ G.length ∧ i = .int .i64 j ∧ wr.ownsRow w6.heap.size 9 1 (.slice (some ⟨ag, 0, none⟩) 19 cc) 19 ((afterOf (G.take j) (homesL 420 K)).map sv) ∧ Below w6.heap.size w6 wr) (fun i _ => G.length + 1 - (intOf i).toNat)
        case atStart => exact ⟨0, Nat.zero_le _, rfl, A0.out, B67.out⟩
        case round =>
          obtain ⟨j, hj, rfl, ho, hbw⟩ := hrel
          have OA := hid ho
          have BW := hid hbw
          clear ho hbw A0
          by_cases hlt : j < G.length
          · obtain ⟨ab, ao, q, p, pc, rfl, hq, k0, k1, hfar⟩ := (PB6.out.1.chg (PB6.out.2 hG0) (Chg.new BW.out fp5) (fun k h => .inl h)) j hlt
            have hqs := SPB.out.2 q (List.mem_of_getElem? hq)
            have AT := hid (afterOf_take (A := homesL 420 K) hq)
            obtain ⟨k, hk⟩ : ∃ k : Nat, q.1 = 401 + (k : Int) := ⟨(q.1 - 401).toNat, by omega⟩
            have hk19 : k < 19 := by omega
            rw [hk] at k0
            have hkt : (q.1 - 401).toNat = k := by omega
            have AE : Hid (afterOf (G.take (j + 1)) (homesL 420 K) = (afterOf (G.take j) (homesL 420 K)).set k (pad q.2)) := hid (by rw [AT.out]; unfold setHome; rw [hkt])
            have hws : IntKind.i64.wrap (401 + (k : Int) - 401) = (k : Int) := by rw [show 401 + (k : Int) - 401 = (k : Int) by omega]; simp [IntKind.wrap, IntKind.bits, IntKind.signed]; omega
            have hwl : IntKind.i64.wrap (512 - (q.2.length : Int)) = ((512 - q.2.length : Nat) : Int) := by simp [IntKind.wrap, IntKind.bits, IntKind.signed]; omega
            have FA := hid hfar
            have HQL : Hid (q.2.length ≤ 504) := hid hqs.2.2
            have HK : Hid (∀ w', Below wr.heap.size wr w' → w'.cell? ⟨ab, ao + j * 2, none⟩ = some (.int .i64 (401 + (k : Int))) ∧ w'.cell? ⟨ab, ao + j * 2 + 1, none⟩ = some (.slice p q.2.length pc)) := hid (fun w' hb =>
              ⟨(hb.cell (p := ⟨ab, ao + j * 2, none⟩) (World.block_lt_of_cell? wr ⟨ab, ao + j * 2, none⟩ k0)).trans k0, (hb.cell (p := ⟨ab, ao + j * 2 + 1, none⟩) (World.block_lt_of_cell? wr ⟨ab, ao + j * 2 + 1, none⟩ k1)).trans k1⟩)
            clear hq hqs hfar k0 k1 AT hkt hk
            go_wp2_with fail
            refine wp_region_plan (fun w' => w'.cell? ⟨ab, ao + j * 2, none⟩ = some (.int .i64 (401 + (k : Int))) ∧ w'.cell? ⟨ab, ao + j * 2 + 1, none⟩ = some (.slice p q.2.length pc)) (fun j => !([7, 13, 21, 22, 23, 24].contains j)) (fun j => j == 24)
              (.of [0, 1, 2, 3, 4, 5, 6, 8, 9, 10, 11, 12, 14, 15, 16, 17, 18, 19, 20, 7, 13, 21, 22, 23, 24]) (by kernel_rfl) (by kernel_rfl) rfl (by kernel_rfl) (by kernel_rfl) (HK.out _ (below_drewN (Below.refl _ _) 1)) ?_
            iterate 19 (apply wpPlan_val; (case ho => rfl); (case hst => rfl); (case hw => rfl); (case hv => intro w' hS; obtain ⟨c0, c1⟩ := hS; go_simp; first | done | rfl); intro K hK; go_simp; refine hK _ ?_; clear hK K)
            have BD : Hid (Below wr.heap.size wr wr.drew) := hid (below_drewN (Below.refl _ _) 1)
            generalize wr.drew = wd at *
            refine wpPlan_list rfl rfl rfl (fun K hK => ?_)
            refine wpList_step (fun K2 hK2 => ?_)
            go_simp
            refine hK2 _ _ ?_
            clear hK2 K2
            simp only [wpList]
            refine hK _ _ (fun _ => HK.out _ (BD.out.alloc BD.out.size _)) ?_
            clear hK K
            refine wpPlan_list rfl rfl rfl (fun K hK => ?_)
            refine wpList_append_rd rfl _ _ 26 rfl wd.heap.size 5 _ 1 1 Try.underlying26 infoU8 rfl (by decide) _ 0 [] rfl (own_fresh _ _ _ 0 rfl (by simp [maxLen]) _ (Nat.le_refl _)) _ q.2.length (bv q.2) rfl ((FA.out.1.new BD.out).new ((Below.refl _ _).alloc (Nat.le_refl _) _)) (bv_one _) (by have := HQL.out; simp only [maxLen]; omega) (by have := HQL.out; omega) (by simp) ?_
            intro p8 c8 w8 hown8 hg8 hb8
            rw [List.nil_append, Nat.zero_add] at hown8
            have O8 := hid hown8
            have B8 := hid (((Below.refl wd.heap.size wd).alloc (Nat.le_refl _) (.cells #[] 5)).grown hg8 (by simp) (by intro k hk; cases hk; exact Nat.le_refl _))
            have BR8 := hid (BD.out.trans (B8.out.mono BD.out.size))
            clear hown8 hg8 hb8
            simp only [wpList]
            refine hK _ _ (fun _ => HK.out _ BR8.out) ?_
            clear hK K
            rw [Nat.zero_add]
            refine wpPlan_list rfl rfl rfl (fun K hK => ?_)
            refine wpList_append_zeros rfl _ _ 26 3 rfl wd.heap.size 5 .i64 .i64 Try.underlying26 Try.underlying3 infoU8 _ q.2.length (bv q.2) rfl O8.out (512 - q.2.length) rfl (by have := HQL.out; omega) B8.out.size ?_
            intro p9 c9 w9 hown9 hg9
            have hpl : q.2.length + (512 - q.2.length) = 512 := by have := HQL.out; omega
            rw [hpl] at hown9 ⊢
            have V9 : Hid (Bs w9 (.slice p9 512 c9) (pad q.2)) := hid (by
              have h5 := Rd.of_own hown9
              rw [← bv_rep, ← bv_append] at h5
              unfold Bs
              rw [pad_length (by have := HQL.out; omega)]
              exact h5)
            have B9 := hid (B8.out.grown hg9 B8.out.size (fun k hk => (O8.out.lt k hk).1))
            have BR9 := hid (BD.out.trans (B9.out.mono BD.out.size))
            clear hown9 hg9 hpl
            simp only [wpList]
            refine hK _ _ (fun _ => HK.out _ BR9.out) ?_
            clear hK K
            refine wpPlan_list rfl rfl rfl (fun K hK => ?_)
            refine wpList_bytes_str rfl 26 9 _ rfl 5 Try.underlying26 Try.underlying5 Try.underlying9 _ (pad q.2) rfl V9.out ?_
            simp only [wpList]
            refine hK _ _ (fun _ => HK.out _ BR9.out) ?_
            clear hK K
            have O9 := hid (own_chg OA.out (Chg.new BR9.out NoFp) (fun _ _ h => h))
            have hAl : (afterOf (G.take j) (homesL 420 K)).length = 19 := by rw [afterOf_length, homesL_length]
            obtain ⟨old, hold⟩ : ∃ x, (afterOf (G.take j) (homesL 420 K))[k]? = some x := ⟨_, List.getElem?_eq_getElem (by omega)⟩
            obtain ⟨kc, kf⟩ := own_cell O9.out (k := k) (v := sv old) (by rw [List.getElem?_map, hold]; rfl)
            have OS := hid (own_set O9.out hk19 (sv (pad q.2)))
            have BS : Hid (Below w6.heap.size w6 (w9.setCell ⟨ag, k, none⟩ (sv (pad q.2)))) := hid ((BW.out.trans (BR9.out.mono BW.out.size)).trans ((Chg.setCell (fp := fun z => z = ag) w9 (a := ⟨ag, k, none⟩) rfl _).below (fun z hz => by rw [hz]; exact (OA.out.lt ag rfl).1) (Nat.le_trans BW.out.size BR9.out.size)))
            clear hold
            have hk19' : (k : Int) < 19 := by omega
            refine wpPlan_list rfl rfl rfl (fun K hK => ?_)
            refine wpList_step (fun K2 hK2 => ?_)
            go_simp
            refine hK2 _ _ ?_
            clear hK2 K2
            simp only [wpList]
            refine hK _ _ (fun _ => HK.out _ BR9.out) ?_
            clear hK K
            refine wpPlan_list rfl rfl rfl (fun K hK => ?_)
            refine wpList_step (fun K2 hK2 => ?_)
            go_simp
            refine hK2 _ _ ?_
            clear hK2 K2
            simp only [wpList]
            refine hK _ _ (fun h => by cases h) ?_
            clear hK K
            refine wpPlan_nil ?_
            simp only [Qn]
            clear kc kf
            go_wp2_with fail
            go_roundw
            case rel => exact ⟨j + 1, by omega, by go_num, by rw [AE.out, map_set_sv]; exact OS.out, BS.out⟩
            case measure => simp [intOf]; omega
          · obtain rfl : j = G.length := by omega
            rw [List.take_length] at OA
            obtain ⟨w8, hw8⟩ : ∃ w8, w8 = wr := ⟨_, rfl⟩
            subst hw8
            have HB8 := hid (own_chg HB.out (Chg.new BW.out NoFp) (fun _ _ h => h))
            have HBL : Hid (∀ g, Value.ownBlock (.slice hp 19 hc) = some g → w5.heap.size ≤ g) := hid (fun g hg => (HB.out.lt g hg).1)
            have PB8 := hid (PB6.out.1.chg (PB6.out.2 hG0) (Chg.new BW.out fp5) (fun k h => .inl h))
            have PO8 := hid (PB6.out.2 hG0)
            have F5 : Hid (∀ k, fp5 k → w.heap.size ≤ k) := hid (fun k hk => by
              rcases D5.out.2.2 k hk with h | h
              · exact FK0.out k h
              · have := B3.out.size; omega)
            have D8 := hid (DAt.start (D6.out.new BW.out).1)
            have B8 := hid (B6.out.trans (BW.out.mono B6.out.size))
            have NA : Hid (∀ g, Value.ownBlock (.slice (some ⟨ag, 0, none⟩) 19 cc) = some g → ¬ fp5 g) := hid (fun g hg hf => by
              have h1 := (OA.out.lt g hg).1
              have h2 := L5.out g hf
              have := S56.out
              omega)
            have NB : Hid (∀ g, Value.ownBlock (.slice hp 19 hc) = some g → ¬ fp5 g) := hid (fun g hg hf => by
              have h1 := HBL.out g hg
              have h2 := L5.out g hf
              omega)
            clear D5 D6 HB PB6 BW HBL DA PA3 PB3 LKA LKB SPA L5 S56 B6 B67
            go_wp2_with fail
            refine (E30.out _).mono ?_; rintro e1 wx ⟨rfl, hw⟩
            subst hw
            go_wp2_with fail
            refine (dStop_any _ d fp5 420 s5 (1 + M) D8.out.1 (by omega)).mono ?_
            rintro e1 w9 ⟨rfl, hd9, hc9, hs9⟩
            obtain ⟨fp9, hd9⟩ := D8.out.step ⟨fp5, hd9, hc9, fun _ h => .inl h⟩
            have D9 := hid hd9
            have WC := hid (whole_com LOK.out RS.out RZ.out (max (1 + M) 0) z3)
            have CO := hid (cmt_ops 420 { s5 with stop := max (1 + M) 0 } G (by omega))
            have O9 : Hid (({ s5 with stop := max (1 + M) 0 } : DS).ops ≤ 2010) := hid SO.out.1
            generalize ({ s5 with stop := max (1 + M) 0 } : DS) = s9 at *
            clear hd9 hc9 hs9
            have hpt := D9.out.puts PB8.out PO8.out
            have HC := hid (com_any w9 d fp9 420 s9 bp bc G D9.out.1 hpt.1 hpt.2 (by omega) (fun q hq => by have := SPB.out.2 q hq; omega) (fun q hq => wf_small (by have := SPB.out.2 q hq; omega) (by have := SPB.out.2 q hq; omega)) (by have := O9.out; omega))
            clear hpt
            generalize cmt 420 s9 G = r at *
            go_wp2_with fail
            refine HC.out.mono ?_
            rintro e1 w10 ⟨rfl, hto⟩
            obtain ⟨fp10, hd10⟩ := D9.out.step hto
            have D10 := hid hd10
            clear hto hd10 HC D9
            generalize hdn : (r.2 == 0) = dn at WC
            go_wp2_with fail
            have hkl : z3.length = len3 := H3.out.1
            subst hkl
            have BB : Hid (∀ {w' : World} {fp : Nat → Prop} {s : DS}, DAt d fp5 w8 w' fp s → Below w.heap.size w w') := hid (fun h => B8.out.trans (h.2.1.below F5.out B8.out.size))
            have KP : Hid (∀ {w' : World} {fp : Nat → Prop} {s : DS}, DAt d fp5 w8 w' fp s → Rd w' 1 (.slice a3 z3.length cap3) z3.length (z3.map Value.bool) ∧ (0 < z3.length → ∀ g, Value.ownBlock (.slice a3 z3.length cap3) = some g → ¬ fp g)) := hid (fun h => ⟨H3.out.2.new (BB.out h), fun hz g hg hf => by
              have h1 := Rd.lt H3.out.2 hz (by decide) g hg
              rcases h.2.2 g hf with h2 | h2
              · have := F5.out g h2; omega
              · have := B8.out.size; omega⟩)
            refine (dCrash_any w10 d fp10 420 r.1 (.slice a3 z3.length cap3) z3 D10.out.1 (KP.out D10.out).1 (KP.out D10.out).2).mono ?_
            rintro e1 w11 ⟨rfl, hd11, hc11⟩
            obtain ⟨fp11, hd11⟩ := D10.out.step ⟨fp10, hd11, hc11, fun _ h => .inl h⟩
            have D11 := hid hd11
            have OC : Hid ((dCrash r.1 z3).ops ≤ 4100 + 500 * ((0 : Nat) : Int) ∧ (dCrash r.1 z3).stop < 1) := hid ⟨by show r.1.ops ≤ _; have := CO.out; have := O9.out; omega, by show (0 : Int) < 1; omega⟩
            clear hd11 hc11 D10 CO O9
            generalize dCrash r.1 z3 = s11 at *
            go_wp2_with fail
            go_loopw [18] (fun i wr => ∃ (j : Nat) (s : DS) (fp : Nat → Prop), j ≤ 6 ∧ j ≤ len4 ∧ i = .int .i64 j ∧ DAt d fp5 w8 wr fp s ∧ WI G K dn s ∧ s.ops ≤ 4100 + 500 * (j : Int) ∧ s.stop < 1) (fun i _ => 7 - (intOf i).toNat)
            case atStart => exact ⟨0, s11, fp11, by omega, Nat.zero_le _, rfl, D11.out, WC.out, OC.out.1, OC.out.2⟩
            case round =>
              obtain ⟨j, s, fp, hj6, hj4, rfl, hda, hwi, hops, hst⟩ := hrel
              have DA := hid hda
              have WW := hid hwi
              have OP := hid (And.intro hops hst)
              clear hda hwi hops hst WC OC D11 D8
              by_cases hlt : j < len4 ∧ j < 6
              · obtain ⟨hlt, hlt6⟩ := hlt
                obtain ⟨x, hx⟩ : ∃ x, (z4.take len4)[j]? = some x := by
                  have := H4.out.1
                  exact ⟨_, List.getElem?_eq_getElem (by simp at this ⊢; omega)⟩
                obtain ⟨xb, xo, rfl, hxc⟩ := Rd.addr H4.out (by omega)
                have hxc0 := hxc j (.int .i64 x) (by rw [List.getElem?_map, hx]; rfl)
                have hxc1 : wr.cell? ⟨xb, xo + j, none⟩ = some (.int .i64 x) := ((BB.out DA.out).cell (p := ⟨xb, xo + j, none⟩) (World.block_lt_of_cell? w ⟨xb, xo + j, none⟩ hxc0)).trans hxc0
                have hx0 : 0 ≤ x % 20 := Int.emod_nonneg _ (by omega)
                have hx1 : x % 20 < 20 := Int.emod_lt_of_pos _ (by omega)
                have E20 := hid (within3_any x 20 wr (by omega) (by omega))
                clear hxc hxc0 hx
                go_wp2_with fail
                refine E20.out.mono ?_; rintro e1 wx ⟨rfl, hw⟩
                subst hw
                clear E20
                generalize x % 20 = y at *
                go_wp2_with fail
                refine (dStop_any _ d fp 420 s (1 + y) DA.out.1 (by omega)).mono ?_
                rintro e1 w12 ⟨rfl, hd9, hc9, hs9⟩
                obtain ⟨fp12, hd12⟩ := DA.out.step ⟨fp, hd9, hc9, fun _ h => .inl h⟩
                have D12 := hid hd12
                have WR := hid (whole_rec LOK.out WW.out (max (1 + y) 0) z3)
                have O12 : Hid (({ s with stop := max (1 + y) 0 } : DS).ops ≤ 4100 + 500 * (j : Int)) := hid OP.out.1
                have O13 : Hid ((recov 420 { s with stop := max (1 + y) 0 }).1.ops ≤ 4100 + 500 * ((j + 1 : Nat) : Int)) := hid (by have := WR.out.2; have := OP.out.1; push_cast; omega)
                clear hd9 hc9 hs9 hd12
                generalize ({ s with stop := max (1 + y) 0 } : DS) = s12 at *
                go_wp2_with fail
                refine (recov_any w12 d fp12 420 s12 D12.out.1 (by have := O12.out; omega)).mono ?_
                rintro e1 w13 ⟨rfl, hto⟩
                obtain ⟨fp13, hd13⟩ := D12.out.step hto
                have D13 := hid hd13
                clear hto hd13 D12
                generalize recov 420 s12 = v at *
                go_wp2_with fail
                refine (dCrash_any w13 d fp13 420 v.1 (.slice a3 z3.length cap3) z3 D13.out.1 (KP.out D13.out).1 (KP.out D13.out).2).mono ?_
                rintro e1 w14 ⟨rfl, hd14, hc14⟩
                obtain ⟨fp14, hd14⟩ := D13.out.step ⟨fp13, hd14, hc14, fun _ h => .inl h⟩
                have D14 := hid hd14
                clear hd14 hc14 D13
                have OX : Hid ((dCrash v.1 z3).ops ≤ 4100 + 500 * ((j + 1 : Nat) : Int) ∧ (dCrash v.1 z3).stop < 1) := hid ⟨O13.out, by show (0 : Int) < 1; omega⟩
                go_wp2_with fail
                go_roundw
                case rel => exact ⟨j + 1, _, fp14, by omega, by omega, by go_num, D14.out, WR.out.1, OX.out.1, OX.out.2⟩
                case measure => simp [intOf]; omega
              · have WE := hid (whole_end LOK.out WW.out OP.out.2)
                have BF : Hid (∀ {w' : World} {fp : Nat → Prop} {s : DS}, DAt d fp5 w8 w' fp s → w'.ownsRow w6.heap.size 9 1 (.slice (some ⟨ag, 0, none⟩) 19 cc) 19 ((afterOf G (homesL 420 K)).map sv) ∧ w'.ownsRow w5.heap.size 9 1 (.slice hp 19 hc) 19 ((homesL 420 K).map sv)) := hid (fun h => ⟨own_chg OA.out h.2.1 NA.out, own_chg HB8.out h.2.1 NB.out⟩)
                by_cases h1 : j < len4
                · obtain rfl : j = 6 := by omega
                  go_wp2_with fail
                  refine (recov_any wr d fp 420 s DA.out.1 (by have := OP.out.1; omega)).mono ?_
                  obtain ⟨we0, F, weR, weH⟩ := WE.out
                  rintro e1 w12 ⟨rfl, hto⟩
                  obtain ⟨fp12, hd12⟩ := DA.out.step hto
                  have D12 := hid hd12
                  have ER := hid weR
                  have EH := hid weH
                  rw [we0]
                  clear hto hd12 we0 weR weH WE
                  generalize recov 420 s = v at *
                  go_wp2_with fail
                  refine (homes3_any w12 d fp12 420 v.1 D12.out.1 ER.out.alive).mono ?_
                  rintro e1 w13 ⟨v13, rfl, ho13, hb13⟩
                  obtain ⟨np, nc, rfl⟩ := own_shape ho13
                  rw [ER.out.now] at ho13
                  have D13 := hid (D12.out.new hb13)
                  have N13 := hid ho13
                  have F13 := hid (BF.out D13.out)
                  have B13 := hid (BB.out D13.out)
                  clear ho13 hb13 D12
                  go_wp2_with fail
                  refine (same3_any w13 np (some ⟨ag, 0, none⟩) (420 - 401) 19 nc cc _ _ (Rd.of_own N13.out) (Rd.of_own F13.out.1) (by omega) (by omega)).mono ?_
                  rintro e1 w14 ⟨rfl, hb14⟩
                  have B14 := hid (B13.out.trans (hb14.mono B13.out.size))
                  have N14 := hid ((Rd.of_own N13.out).new hb14)
                  have F14 := hid ((Rd.of_own F13.out.2).new hb14)
                  clear hb14
                  rcases EH.out with heq | ⟨hdf, heq⟩
                  · rw [heq, beq_self_eq_true]
                    go_wp2_with fail
                    go_ret
                    exact ⟨rfl, B14.out⟩
                  · subst hdf
                    generalize hb : (homesL 420 F == afterOf G (homesL 420 K)) = bb
                    clear hb
                    cases bb with
                    | true =>
                      go_wp2_with fail
                      go_ret
                      exact ⟨rfl, B14.out⟩
                    | false =>
                      have hsm := same3_any w14 np hp (420 - 401) 19 nc hc _ _ N14.out F14.out (by omega) (by omega)
                      rw [heq, beq_self_eq_true] at hsm
                      have SM := hid hsm
                      clear hsm
                      go_wp2_with fail
                      refine SM.out.mono ?_
                      rintro e1 w15 ⟨rfl, hb15⟩
                      have B15 := hid (B14.out.trans (hb15.mono B14.out.size))
                      clear hb15
                      go_wp2_with fail
                      go_ret
                      exact ⟨rfl, B15.out⟩
                · obtain rfl : j = len4 := by omega
                  go_wp2_with fail
                  refine (recov_any wr d fp 420 s DA.out.1 (by have := OP.out.1; omega)).mono ?_
                  obtain ⟨we0, F, weR, weH⟩ := WE.out
                  rintro e1 w12 ⟨rfl, hto⟩
                  obtain ⟨fp12, hd12⟩ := DA.out.step hto
                  have D12 := hid hd12
                  have ER := hid weR
                  have EH := hid weH
                  rw [we0]
                  clear hto hd12 we0 weR weH WE
                  generalize recov 420 s = v at *
                  go_wp2_with fail
                  refine (homes3_any w12 d fp12 420 v.1 D12.out.1 ER.out.alive).mono ?_
                  rintro e1 w13 ⟨v13, rfl, ho13, hb13⟩
                  obtain ⟨np, nc, rfl⟩ := own_shape ho13
                  rw [ER.out.now] at ho13
                  have D13 := hid (D12.out.new hb13)
                  have N13 := hid ho13
                  have F13 := hid (BF.out D13.out)
                  have B13 := hid (BB.out D13.out)
                  clear ho13 hb13 D12
                  go_wp2_with fail
                  refine (same3_any w13 np (some ⟨ag, 0, none⟩) (420 - 401) 19 nc cc _ _ (Rd.of_own N13.out) (Rd.of_own F13.out.1) (by omega) (by omega)).mono ?_
                  rintro e1 w14 ⟨rfl, hb14⟩
                  have B14 := hid (B13.out.trans (hb14.mono B13.out.size))
                  have N14 := hid ((Rd.of_own N13.out).new hb14)
                  have F14 := hid ((Rd.of_own F13.out.2).new hb14)
                  clear hb14
                  rcases EH.out with heq | ⟨hdf, heq⟩
                  · rw [heq, beq_self_eq_true]
                    go_wp2_with fail
                    go_ret
                    exact ⟨rfl, B14.out⟩
                  · subst hdf
                    generalize hb : (homesL 420 F == afterOf G (homesL 420 K)) = bb
                    clear hb
                    cases bb with
                    | true =>
                      go_wp2_with fail
                      go_ret
                      exact ⟨rfl, B14.out⟩
                    | false =>
                      have hsm := same3_any w14 np hp (420 - 401) 19 nc hc _ _ N14.out F14.out (by omega) (by omega)
                      rw [heq, beq_self_eq_true] at hsm
                      have SM := hid hsm
                      clear hsm
                      go_wp2_with fail
                      refine SM.out.mono ?_
                      rintro e1 w15 ⟨rfl, hb15⟩
                      have B15 := hid (B14.out.trans (hb15.mono B14.out.size))
                      clear hb15
                      go_wp2_with fail
                      go_ret
                      exact ⟨rfl, B15.out⟩)
end Go.Proofs.Ytplahohlmiphoaa
