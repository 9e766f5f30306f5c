/- triadlaw2: Act.Do, the walk. -/
import Derived.Test.YtgikaocimconlaaDo
namespace Go.Proofs.Ytgikaocimconlaa
open Go.RowKit
set_option linter.unusedVariables false

theorem infoB : (Try.prog.info? 4).map (fun i => (i.zero, i.size, i.bytes)) = some (some (.bool false), 1, 1) := by kernel_rfl

set_option maxRecDepth 100000 in
set_option maxHeartbeats 4000000 in
theorem do_any (w : World) (B d x n : Nat) (m : Int) (s : DS) (fp fx : Nat → Prop) (q : ActD) (pb : Option Addr) (cb : Nat) (pk : Option Addr) (ck : Nat) (h : Pair B d x n m s fp fx w) (hq : Acting w B q pb cb pk ck) (hm : m ≤ 1000000) :
    Calls Try.prog 40 #[.agg #[.int .i64 q.kind, .int .i64 q.at_, .int .i64 q.num, .slice pb q.b.length cb, .slice pk q.keep.length ck], .pointer (some ⟨d, 0, none⟩), .pointer (some ⟨x, 0, none⟩)] w fun e w' => e = .returned (.bool true) ∧ PairTo B d x n (m + 1) w w' := by
  have hn := h.hd.ok.n2
  have hn1 := h.hd.ok.n1
  have H := hid h
  have HQ := hid hq
  clear h hq
  go_enter Try.func40, Try.ntmps40
  go_wp2_with fail
  have hw1 : Below w.heap.size w (w.alloc (Obj.cells #[Value.int IntKind.i64 q.kind, Value.int IntKind.i64 q.at_, Value.int IntKind.i64 q.num, Value.slice pb q.b.length cb, Value.slice pk q.keep.length ck] 60)) := (Below.refl _ _).alloc (Nat.le_refl _) _
  have hblk : Blk (w.alloc (Obj.cells #[Value.int IntKind.i64 q.kind, Value.int IntKind.i64 q.at_, Value.int IntKind.i64 q.num, Value.slice pb q.b.length cb, Value.slice pk q.keep.length ck] 60)) w.heap.size [Value.int IntKind.i64 q.kind, Value.int IntKind.i64 q.at_, Value.int IntKind.i64 q.num, Value.slice pb q.b.length cb, Value.slice pk q.keep.length ck] 60 := heap_alloc_new w _
  generalize hW : w.alloc (Obj.cells #[Value.int IntKind.i64 q.kind, Value.int IntKind.i64 q.at_, Value.int IntKind.i64 q.num, Value.slice pb q.b.length cb, Value.slice pk q.keep.length ck] 60) = w1 at hw1 hblk ⊢
  clear hW
  have hfar : ∀ k, fp k → k ≠ w.heap.size := fun k hk h2 => by have := H.out.hd.lt k hk; omega
  have hfar2 : ∀ k, fx k → k ≠ w.heap.size := fun k hk h2 => by have := H.out.hx.lt k hk; omega
  have hg0 : w.heap.size < w1.heap.size := hblk.lt
  have FAR := hid hfar
  have FAR2 := hid hfar2
  have BW := hid (hw1.mono H.out.base)
  have H1 := hid (H.out.new hw1)
  have HQ1 := hid (HQ.out.below (hw1.mono H.out.base))
  have BK := hid hblk
  clear hw1 hfar hfar2 hblk H HQ
  generalize w.heap.size = g0 at *
  obtain ⟨c0, c1, c2, c3, c4, f0, f1, f2, f3, f4⟩ := five_cells BK.out
  have hmod0 : 0 ≤ q.at_ % ((n : Int) + 2) := Int.emod_nonneg _ (by omega)
  have hmod1 : q.at_ % ((n : Int) + 2) < (n : Int) + 2 := Int.emod_lt_of_pos _ (by omega)
  have C1 := hid (turn (xSize_any _ x _ n s (H1.out.drew 1).hx))
  have C2 := hid (turn (within2_any q.at_ ((n : Int) + 2) w1.drew (by omega) (by omega)))
  generalize q.at_ % ((n : Int) + 2) = A at hmod0 hmod1 C2
  have hwr : IntKind.i64.wrap ((n : Int) + 2) = (n : Int) + 2 := by simp [IntKind.wrap, IntKind.bits, IntKind.signed]; omega
  have hwr2 : IntKind.i64.wrap (A - 1) = A - 1 := by simp [IntKind.wrap, IntKind.bits, IntKind.signed]; omega
  refine wp_region_still_lit (by kernel_rfl) (by kernel_rfl) ?_
  repeat still_step
  still_call C1.out
  repeat still_step
  still_call C2.out
  repeat still_step
  refine wpStill_nil ?_
  clear C1 C2 hwr hwr2
  generalize hA1 : A - 1 = A1
  have hA2 : -1 ≤ A1 ∧ A1 ≤ (n : Int) := by omega
  clear hA1 hmod0 hmod1
  have H2 : Hid (Pair B d x n m s fp fx w1.drew) := hid (H1.out.drew 1)
  have HQ2 : Hid (Acting w1.drew B q pb cb pk ck) := hid (HQ1.out.below ((Below.refl _ _).drew))
  have BW2 : Hid (Below B w w1.drew) := hid BW.out.drew
  have BK2 : Hid (Blk w1.drew g0 [Value.int IntKind.i64 q.kind, Value.int IntKind.i64 q.at_, Value.int IntKind.i64 q.num, Value.slice pb q.b.length cb, Value.slice pk q.keep.length ck] 60) := hid BK.out
  clear H1 HQ1 BW BK c0 c1 c2 c3 c4 f0 f1 f2 f3 f4
  change Exit.then _ _ _ _ w1.drew
  have hg0' : g0 < w1.drew.heap.size := hg0
  clear hg0
  generalize w1.drew = w2 at *
  obtain ⟨c0, c1, c2, c3, c4, f0, f1, f2, f3, f4⟩ := five_cells BK2.out
  go_wp2_with fail
  refine (within2_any _ _ _ (by omega) (by omega)).mono ?_; rintro e1 wx ⟨rfl, hw⟩
  subst hw
  have hk0 : 0 ≤ q.kind % 10 := Int.emod_nonneg _ (by omega)
  have hk1 : q.kind % 10 < 10 := Int.emod_lt_of_pos _ (by omega)
  generalize q.kind % 10 = K at hk0 hk1
  by_cases hk : K < 5
  · rcases (show K = 0 ∨ K = 1 ∨ K = 2 ∨ K = 3 ∨ K = 4 by omega) with hK | hK | hK | hK | hK <;> subst hK
    all_goals
      clear hk hk0 hk1
      go_wp2_with fail
      refine wp_region_plan (fun w' => w'.cell? ⟨g0, 3, none⟩ = some (.slice pb q.b.length cb)) (fun j => !([2, 5, 6, 11, 12, 13].contains j)) (fun _ => false)
        (.of [0, 1, 3, 4, 7, 8, 9, 10, 2, 5, 6, 11, 12, 13]) (by kernel_rfl) (by kernel_rfl) rfl (by kernel_rfl) (by kernel_rfl) c3 ?_
      apply wpPlan_val
      case ho => rfl
      case hst => rfl
      case hw => rfl
      case hv => intro w' hS; go_simp; first | done | rfl
      intro K hK
      go_simp
      refine hK _ ?_
      clear hK K
      apply wpPlan_val
      case ho => rfl
      case hst => rfl
      case hw => rfl
      case hv => intro w' hS; go_simp; first | done | rfl
      intro K hK
      go_simp
      refine hK _ ?_
      clear hK K
      apply wpPlan_val
      case ho => rfl
      case hst => rfl
      case hw => rfl
      case hv => intro w' hS; go_simp; first | done | rfl
      intro K hK
      go_simp
      refine hK _ ?_
      clear hK K
      apply wpPlan_val
      case ho => rfl
      case hst => rfl
      case hw => rfl
      case hv => intro w' hS; go_simp; first | done | rfl
      intro K hK
      go_simp
      refine hK _ ?_
      clear hK K
      apply wpPlan_val
      case ho => rfl
      case hst => rfl
      case hw => rfl
      case hv => intro w' hS; go_simp; first | done | rfl
      intro K hK
      go_simp
      refine hK _ ?_
      clear hK K
      apply wpPlan_val
      case ho => rfl
      case hst => rfl
      case hw => rfl
      case hv => intro w' hS; go_simp; first | done | rfl
      intro K hK
      go_simp
      refine hK _ ?_
      clear hK K
      apply wpPlan_val
      case ho => rfl
      case hst => rfl
      case hw => rfl
      case hv => intro w' hS; go_simp; first | done | rfl
      intro K hK
      go_simp
      refine hK _ ?_
      clear hK K
      apply wpPlan_val
      case ho => rfl
      case hst => rfl
      case hw => rfl
      case hv => intro w' hS; go_simp; first | done | rfl
      intro K hK
      go_simp
      refine hK _ ?_
      clear hK K
      refine wpPlan_list rfl rfl rfl (fun K hK => ?_)
      refine wpList_step (fun K2 hK2 => ?_)
      go_simp
      refine hK2 _ _ ?_
      clear hK2 K2
      simp only [wpList]
      have b3 : Below w2.heap.size w2 (w2.alloc (Obj.cells #[] 5)).drew := ((Below.refl _ _).alloc (Nat.le_refl _) _).drew
      have OW3 : Hid ((w2.alloc (Obj.cells #[] 5)).drew.ownsRow w2.heap.size 5 1 (.slice (some ⟨w2.heap.size, 0, none⟩) 0 0) 0 []) := hid (own_fresh w2 [] 5 0 rfl (by simp [maxLen]) _ (Nat.le_refl _))
      generalize (w2.alloc (Obj.cells #[] 5)).drew = w3 at b3 OW3 ⊢
      have d3 : w3.cell? ⟨g0, 3, none⟩ = some (.slice pb q.b.length cb) := (b3.cell (p := ⟨g0, 3, none⟩) hg0').trans c3
      have HQ3 := hid (HQ2.out.below (b3.mono H2.out.base))
      have B3 := hid b3
      refine hK _ _ (fun _ => d3) ?_
      clear hK K b3
      have hbl := HQ3.out.2.2.1.1
      refine wpPlan_list rfl rfl rfl (fun K hK => ?_)
      refine wpList_append_rd rfl _ _ 24 rfl w2.heap.size 5 _ 1 1 Try.underlying24 infoU8 rfl (by decide) _ 0 [] rfl OW3.out _ q.b.length (bv q.b) rfl HQ3.out.1 (bv_one _) (by simp only [maxLen]; omega) (by omega) B3.out.size ?_
      intro pp cc w4 hown4 hg4 hb4
      have b4 : Below w2.heap.size w2 w4 := B3.out.grown hg4 B3.out.size (by intro k hk; cases hk; exact Nat.le_refl _)
      have hv4 : Bs w4 (.slice pp q.b.length cc) q.b := by
        have h5 := Rd.of_own hown4
        rw [Nat.zero_add, List.nil_append] at h5
        exact h5
      clear hown4 hg4 hb4 OW3 B3 HQ3 d3
      have d4 : w4.cell? ⟨g0, 3, none⟩ = some (.slice pb q.b.length cb) := (b4.cell (p := ⟨g0, 3, none⟩) hg0').trans c3
      have H4 := hid (H2.out.new b4)
      have HQ4 := hid (HQ2.out.below (b4.mono H2.out.base))
      have BW4 := hid (BW2.out.trans (b4.mono H2.out.base))
      have HV4 := hid hv4
      have hg4 : g0 < w4.heap.size := Nat.lt_of_lt_of_le hg0' b4.size
      simp only [wpList]
      refine hK _ _ (fun _ => d4) ?_
      clear hK K b4 hv4
      have ho4 : s.ops ≤ 1000000 := by have := H4.out.ops; omega
      refine wpPlan_list rfl rfl rfl (fun K hK => ?_)
      refine wpList_step (fun K2 hK2 => ?_)
      go_simp
      refine (dWrite_any w4 d fp n s A1 _ q.b H4.out.hd HV4.out (by omega) ho4).mono ?_
      rintro e1 w5 ⟨rfl, hto⟩
      have T5 := hid hto
      have X5 := hid (H4.out.one hto)
      obtain ⟨fp', hd5, hc5, hf5⟩ := hto
      have d5 : w5.cell? ⟨g0, 3, none⟩ = some (.slice pb q.b.length cb) := (CellTo hc5 (fun hh => FAR.out _ hh rfl) hg4).trans d4
      have HQ5 := hid (HQ4.out.below (hc5.below H4.out.bd H4.out.base))
      have hg5 : g0 < w5.heap.size := Nat.lt_of_lt_of_le hg4 hc5.size
      clear hd5 hc5 hf5 HQ4 HV4 d4
      go_simp
      refine hK2 _ _ ?_
      clear hK2 K2
      simp only [wpList]
      refine hK _ _ (fun _ => d5) ?_
      clear hK K
      refine wpPlan_list rfl rfl rfl (fun K hK => ?_)
      refine wpList_step (fun K2 hK2 => ?_)
      go_simp
      refine (xWrite_any w5 x fx n s A1 _ q.b X5.out HQ5.out.1 (by omega) ho4).mono ?_
      rintro e1 w6 ⟨rfl, hto⟩
      have RES := hid (H4.out.two (m' := m + 1) T5.out hto (by have h1 := dWrite_ops n s A1 q.b; have h2 := H4.out.ops; omega))
      obtain ⟨fx', hd6, hc6, hf6⟩ := hto
      have d6 : w6.cell? ⟨g0, 3, none⟩ = some (.slice pb q.b.length cb) := (CellTo hc6 (fun hh => FAR2.out _ hh rfl) hg5).trans d5
      clear hd6 hc6 hf6 HQ5 d5 T5 X5
      go_simp
      refine hK2 _ _ ?_
      clear hK2 K2
      simp only [wpList]
      refine hK _ _ (fun _ => d6) ?_
      clear hK K
      refine wpPlan_list rfl rfl rfl (fun K hK => ?_)
      refine wpList_step (fun K2 hK2 => ?_)
      go_simp
      refine hK2 _ _ ?_
      clear hK2 K2
      simp only [wpList]
      refine hK _ _ (fun _ => d6) ?_
      clear hK K
      refine wpPlan_list rfl rfl rfl (fun K hK => ?_)
      refine wpList_step (fun K2 hK2 => ?_)
      go_simp
      refine hK2 _ _ ?_
      clear hK2 K2
      simp only [wpList]
      refine hK _ _ (fun _ => d6) ?_
      clear hK K
      refine wpPlan_nil ?_
      simp only [Qn]
      clear d6 c0 c1 c2 c3 c4 f0 f1 f2 f3 f4
      go_wp2_with fail
      go_ret
      obtain ⟨fp1, fx1, s1, hp1, hb1⟩ := RES.out
      exact ⟨rfl, fp1, fx1, s1, hp1, BW4.out.trans hb1⟩
  · by_cases hk2 : K < 7
    · rcases (show K = 5 ∨ K = 6 by omega) with hK | hK <;> subst hK
      all_goals
        clear hk hk2 hk0 hk1 c0 c1 c2 c3 c4 f0 f1 f2 f3 f4
        go_wp2_with fail
        refine (dSync_any w2 d fp n s H2.out.hd (by have := H2.out.ops; omega)).mono ?_; rintro e1 w3 ⟨rfl, hd3, hc3, hsz3⟩
        have T3 : Hid (DskTo w2 d fp n (dSync s).1 w3) := hid ⟨fp, hd3, hc3, fun _ h => .inl h⟩
        have X3 := hid (H2.out.one T3.out)
        clear hd3 hc3 hsz3
        go_wp2_with fail
        refine (xSync_any w3 x fx n s X3.out (by have := H2.out.ops; omega)).mono ?_; rintro e1 w4 ⟨rfl, hd4, hc4, hsz4⟩
        have RES := hid (H2.out.two (m' := m + 1) T3.out ⟨fx, hd4, hc4, fun _ h => .inl h⟩ (by have h1 := dSync_ops s; have h2 := H2.out.ops; omega))
        clear hd4 hc4 hsz4
        go_wp2_with fail
        go_ret
        obtain ⟨fp1, fx1, s1, hp1, hb1⟩ := RES.out
        exact ⟨rfl, fp1, fx1, s1, hp1, BW2.out.trans hb1⟩
    · rcases (show K = 7 ∨ K = 8 ∨ K = 9 by omega) with hK | hK | hK <;> subst hK
      · clear hk hk2 hk0 hk1 c0 c1 c3 c4 f0 f1 f2 f3 f4
        go_wp2_with fail
        refine (within2_any _ _ _ (by omega) (by omega)).mono ?_; rintro e1 wx ⟨rfl, hw⟩
        subst hw
        have hm0 : 0 ≤ q.num % 8 := Int.emod_nonneg _ (by omega)
        have hm1 : q.num % 8 < 8 := Int.emod_lt_of_pos _ (by omega)
        have HN : Hid (∃ M, q.num % 8 = M) := hid ⟨_, rfl⟩
        generalize hMM : q.num % 8 = M at hm0 hm1
        have HM := hid hMM
        clear hMM HN
        go_wp2_with fail
        refine (dStop_any w2 d fp n s (M - 1) H2.out.hd (by omega)).mono ?_; rintro e1 w3 ⟨rfl, hd3, hc3, hsz3⟩
        have T3 : Hid (DskTo w2 d fp n { s with stop := max (M - 1) 0 } w3) := hid ⟨fp, hd3, hc3, fun _ h => .inl h⟩
        have X3 := hid (H2.out.one T3.out)
        have d2 : w3.cell? ⟨g0, 2, none⟩ = some (.int .i64 q.num) := (CellTo hc3 (fun hh => FAR.out _ hh rfl) hg0').trans c2
        clear hd3 hc3 hsz3 c2
        go_wp2_with fail
        refine (within2_any _ _ _ (by omega) (by omega)).mono ?_; rintro e1 wx ⟨rfl, hw⟩
        subst hw
        rw [HM.out]
        go_wp2_with fail
        refine (xStop_any w3 x fx n s (M - 1) X3.out (by omega)).mono ?_; rintro e1 w4 ⟨rfl, hd4, hc4, hsz4⟩
        have RES := hid (H2.out.two (m' := m) T3.out ⟨fx, hd4, hc4, fun _ h => .inl h⟩ H2.out.ops)
        clear hd4 hc4 hsz4 d2 X3
        obtain ⟨fp1, fx1, s1, hp1, hb1⟩ := RES.out
        have H6 := hid hp1
        have BW6 := hid (BW2.out.trans hb1)
        clear hp1 hb1 RES T3 HQ2 H2 BW2 BK2
        go_wp2_with fail
        refine (dRead_any _ d _ n _ A1 H6.out.hd).mono ?_; rintro e1 w7 ⟨v1, rfl, hv1, hb7⟩
        have H7 := hid (H6.out.new hb7)
        have BW7 := hid (BW6.out.trans (hb7.mono H6.out.base))
        have V1 := hid hv1
        clear hv1 hb7 H6 BW6
        go_wp2_with fail
        refine (xRead_any _ x _ n _ A1 H7.out.hx).mono ?_; rintro e1 w8 ⟨v2, rfl, hv2, hb8⟩
        have H8 := hid (H7.out.new hb8)
        have BW8 := hid (BW7.out.trans (hb8.mono H7.out.base))
        have V3 := hid (show Bs w8 v1 _ from Rd.new V1.out hb8)
        have V4 := hid hv2
        clear hv2 hb8 H7 BW7 V1
        go_wp2_with (first
          | (refine wpList_bytes_str rfl 24 9 _ rfl 5 Try.underlying24 Try.underlying5 Try.underlying9 _ _ rfl V3.out ?_)
          | (refine wpList_bytes_str rfl 24 9 _ rfl 5 Try.underlying24 Try.underlying5 Try.underlying9 _ _ rfl V4.out ?_))
        go_ret
        exact ⟨rfl, _, _, _, ⟨H8.out.hd, H8.out.hx, H8.out.dj, H8.out.bd, H8.out.bx, by have := H8.out.ops; omega, H8.out.base⟩, BW8.out⟩
      · clear hk hk2 hk0 hk1 c0 c1 c2 c3 f0 f1 f2 f3 f4
        have hkl := HQ2.out.2.2.1.2
        go_wp2_with (at_builtin; refine wpList_append_rd rfl _ _ 51 rfl w2.heap.size 4 _ 1 1 Try.underlying51 infoB rfl (by decide) _ 0 [] rfl (own_fresh _ _ _ 0 rfl (by simp [maxLen]) _ (Nat.le_refl _)) _ q.keep.length (q.keep.map Value.bool) rfl (HQ2.out.2.1 |> fun hq => hq.new ((Below.refl _ _).alloc (Nat.le_refl _) _)) (by intro u hu; obtain ⟨b, _, rfl⟩ := List.mem_map.1 hu; rfl) (by simp only [maxLen]; omega) (by omega) (by simp) ?_; intro pp cc w4 hown4 hg4 hb4; have OW4 := hid hown4; have G4 : Hid (Below w2.heap.size w2 w4) := hid (((Below.refl w2.heap.size w2).alloc (Nat.le_refl _) _).grown hg4 (by simp) (by intro k hk; cases hk; exact Nat.le_refl _)); have OB4 := hid hb4; clear hown4 hg4 hb4)
        have H4 := hid (H2.out.new G4.out)
        have HQ4 := hid (HQ2.out.below (G4.out.mono H2.out.base))
        have BW4 := hid (BW2.out.trans (G4.out.mono H2.out.base))
        have d4 : w4.cell? ⟨g0, 4, none⟩ = some (.slice pk q.keep.length ck) := (G4.out.cell (p := ⟨g0, 4, none⟩) hg0').trans c4
        have hg4 : g0 < w4.heap.size := Nat.lt_of_lt_of_le hg0' G4.out.size
        have hv4 : Rd w4 1 (.slice pp q.keep.length cc) q.keep.length (q.keep.map Value.bool) := by
          have h5 := Rd.of_own OW4.out
          rw [Nat.zero_add, List.nil_append] at h5
          exact h5
        have hown5 : ∀ g, Value.ownBlock (.slice pp q.keep.length cc) = some g → ¬ fp g := fun g hg hfp => by
          have hlt := H2.out.hd.lt g hfp
          have h5 := OB4.out
          rw [Nat.zero_add, hg] at h5
          rcases h5 with h5 | h5
          · have h6 : some g = some w2.heap.size := h5
            injection h6 with h6
            omega
          · have h6 : some g = some (w2.heap.size + 1) := by rw [h5]; simp
            injection h6 with h6
            omega
        refine (dCrash_any w4 d fp n s _ q.keep H4.out.hd hv4 (fun _ => hown5)).mono ?_; rintro e1 w5 ⟨rfl, hd5, hc5⟩
        have T5 : Hid (DskTo w4 d fp n (dCrash s q.keep) w5) := hid ⟨fp, hd5, hc5, fun _ h => .inl h⟩
        have X5 := hid (H4.out.one T5.out)
        have d5 : w5.cell? ⟨g0, 4, none⟩ = some (.slice pk q.keep.length ck) := (CellTo hc5 (fun hh => FAR.out _ hh rfl) hg4).trans d4
        have HQ5 := hid (HQ4.out.below (hc5.below H4.out.bd H4.out.base))
        clear hd5 hc5 hv4 hown5 c4 d4
        go_wp2_with fail
        refine (xCrash_any w5 x fx n s _ q.keep X5.out HQ5.out.2.1 (fun hp g hg hfx => by have h1 := HQ5.out.2.2.2.2 g hg hp; have h2 := H4.out.bx g hfx; omega)).mono ?_; rintro e1 w6 ⟨rfl, hd6, hc6, hsz6⟩
        have RES := hid (H4.out.two (m' := m) T5.out ⟨fx, hd6, hc6, fun _ h => .inl h⟩ H4.out.ops)
        clear hd6 hc6 hsz6 d5 X5
        obtain ⟨fp1, fx1, s1, hp1, hb1⟩ := RES.out
        have H6 := hid hp1
        have BW6 := hid (BW4.out.trans hb1)
        clear hp1 hb1 RES T5 HQ2 H2 BW2 BK2 HQ4 HQ5 H4 BW4 G4 OW4 OB4
        go_wp2_with fail
        refine (dRead_any _ d _ n _ A1 H6.out.hd).mono ?_; rintro e1 w7 ⟨v1, rfl, hv1, hb7⟩
        have H7 := hid (H6.out.new hb7)
        have BW7 := hid (BW6.out.trans (hb7.mono H6.out.base))
        have V1 := hid hv1
        clear hv1 hb7 H6 BW6
        go_wp2_with fail
        refine (xRead_any _ x _ n _ A1 H7.out.hx).mono ?_; rintro e1 w8 ⟨v2, rfl, hv2, hb8⟩
        have H8 := hid (H7.out.new hb8)
        have BW8 := hid (BW7.out.trans (hb8.mono H7.out.base))
        have V3 := hid (show Bs w8 v1 _ from Rd.new V1.out hb8)
        have V4 := hid hv2
        clear hv2 hb8 H7 BW7 V1
        go_wp2_with (first
          | (refine wpList_bytes_str rfl 24 9 _ rfl 5 Try.underlying24 Try.underlying5 Try.underlying9 _ _ rfl V3.out ?_)
          | (refine wpList_bytes_str rfl 24 9 _ rfl 5 Try.underlying24 Try.underlying5 Try.underlying9 _ _ rfl V4.out ?_))
        go_ret
        exact ⟨rfl, _, _, _, ⟨H8.out.hd, H8.out.hx, H8.out.dj, H8.out.bd, H8.out.bx, by have := H8.out.ops; omega, H8.out.base⟩, BW8.out⟩
      · clear hk hk2 hk0 hk1 c0 c1 c2 c3 c4 f0 f1 f2 f3 f4
        have H6 := H2
        have BW6 := BW2
        clear HQ2 H2 BW2 BK2
        go_wp2_with fail
        refine (dRead_any _ d _ n _ A1 H6.out.hd).mono ?_; rintro e1 w7 ⟨v1, rfl, hv1, hb7⟩
        have H7 := hid (H6.out.new hb7)
        have BW7 := hid (BW6.out.trans (hb7.mono H6.out.base))
        have V1 := hid hv1
        clear hv1 hb7 H6 BW6
        go_wp2_with fail
        refine (xRead_any _ x _ n _ A1 H7.out.hx).mono ?_; rintro e1 w8 ⟨v2, rfl, hv2, hb8⟩
        have H8 := hid (H7.out.new hb8)
        have BW8 := hid (BW7.out.trans (hb8.mono H7.out.base))
        have V3 := hid (show Bs w8 v1 _ from Rd.new V1.out hb8)
        have V4 := hid hv2
        clear hv2 hb8 H7 BW7 V1
        go_wp2_with (first
          | (refine wpList_bytes_str rfl 24 9 _ rfl 5 Try.underlying24 Try.underlying5 Try.underlying9 _ _ rfl V3.out ?_)
          | (refine wpList_bytes_str rfl 24 9 _ rfl 5 Try.underlying24 Try.underlying5 Try.underlying9 _ _ rfl V4.out ?_))
        go_ret
        exact ⟨rfl, _, _, _, ⟨H8.out.hd, H8.out.hx, H8.out.dj, H8.out.bd, H8.out.bx, by have := H8.out.ops; omega, H8.out.base⟩, BW8.out⟩
end Go.Proofs.Ytgikaocimconlaa
