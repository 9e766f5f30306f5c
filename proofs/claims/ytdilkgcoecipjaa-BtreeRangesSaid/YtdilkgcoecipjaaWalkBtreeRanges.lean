/- triadlaw5.BtreeRanges: the walk. -/
import Derived.Test.YtdilkgcoecipjaaM14
import Derived.Test.YtdilkgcoecipjaaM15
namespace Go.Proofs.Ytdilkgcoecipjaa
open Go.RowKit Go.Maps
set_option linter.unusedVariables false

theorem dep_le {d n : Nat} (h : d = 0 ∨ 2 ^ d ≤ n) (hn : n ≤ 400) : d ≤ 8 := by
  rcases h with h | h
  · omega
  · rcases Nat.lt_or_ge d 9 with h1 | h1
    · omega
    · have := Nat.pow_le_pow_right (show 0 < 2 by decide) h1
      omega
/-- tree and map side by side, the same entries -/
structure Side (W0 : Nat) (w0 w : World) (p dd gm at_ M Nb : Nat) (es : List En) : Prop where
  ex : ∃ (s : DS) (S T : AS) (F G : Nat → Prop) (N d : Nat) (t : Tr d) (Nf : Nat → Option Nd) (U : Nat), atT d t = at_ ∧ PgV w p dd F 1600 s S T true N ∧ N ≤ Nb ∧ Sto T Nf U M none ∧ T.root = 0 ∧ Std T Nf U d t ∧ ents (toks d t) = es ∧ Mp w gm G es ∧ (∀ k, F k → ¬ G k) ∧ (∀ k, F k → W0 ≤ k) ∧ (∀ k, G k → W0 ≤ k)
  below : Below W0 w0 w
  ge : W0 ≤ w.heap.size
theorem Side.new {W0 : Nat} {w0 w w' : World} {p dd gm at_ M Nb : Nat} {es : List En} (h : Side W0 w0 w p dd gm at_ M Nb es) (hb : Below w.heap.size w w') : Side W0 w0 w' p dd gm at_ M Nb es := by
  obtain ⟨⟨s, S, T, F, G, N, d, t, Nf, U, h1, h2, h3, h4, h5, h6, h7, h8, h9, h10, h11⟩, hbe, hge⟩ := h
  exact ⟨⟨s, S, T, F, G, N, d, t, Nf, U, h1, h2.new' hb, h3, h4, h5, h6, h7, h8.new hb, h9, h10, h11⟩, hbe.trans (hb.mono hge), Nat.le_trans hge hb.size⟩
theorem Std.trok {T : AS} {Nf : Nat → Option Nd} {U d : Nat} {t : Tr d} (h : Std T Nf U d t) (hn : (ents (toks d t)).length ≤ 1000) : TrOk d t Nf := ⟨h.pre.on, h.pre.asc, h.pre.fit, h.pre.nodup, hn⟩

/-- a key set in both -/
theorem Side.set {W0 : Nat} {w0 w : World} {p dd gm at_ M Nb : Nat} {es : List En} (h : Side W0 w0 w p dd gm at_ M Nb es) (key val : Tx) (hk1 : key.length ≤ 140) (hk2 : key.length + val.length ≤ 150) (hn : es.length ≤ 300) (hNb : Nb ≤ 900000) (hM : M ≤ 1190) (hM2 : 2 * es.length + 20 ≤ M) :
    Calls Try.prog 10 #[.pointer (some ⟨p, 0, none⟩), .int .i64 (at_ : Int), .string (B key), .string (B val)] w fun e w' => ∃ at2 : Nat, e = .returned (.tuple #[.int .i64 (at2 : Int), .int .i64 0]) ∧ Below W0 w0 w' ∧ W0 ≤ w'.heap.size ∧
      ∀ w'', Below w'.heap.size w' w'' → Calls Try.prog 12 #[.pointer (some ⟨gm, 0, none⟩), .string (B key), .string (B val)] w'' fun e3 w3 => e3 = .returned (.int .i64 0) ∧ Side W0 w0 w3 p dd gm at2 M (Nb + 100) (setM es key val) := by
  obtain ⟨⟨s, S, T, F, G, N, d, t, Nf, U, h1, h2, h3, h4, h5, h6, h7, h8, h9, h10, h11⟩, hbe, hge⟩ := h
  have hfc := fit_count h6.pre.fit
  rw [h7] at hfc
  have hd := dep_le hfc.2 (by omega)
  have hU : U ≤ 1 + 2 * es.length := by rw [h6.cnt]; exact hfc.1
  have hs : Srt es := by have := h6.pre.asc.srt; rw [h7] at this; exact this
  refine (bset_any d t w p dd F s S T N Nf U M key val at_ h1 hk1 hk2 (by rw [h5]; decide) (by rw [h5]; decide) h6 h2 (by omega) h4 hM (by omega) (by omega)).mono ?_
  rintro e w' ⟨at2, rfl, T2, d2, t2, Nf2, U2, F2, N2, ha2, hv2, hN2, hc2, hF2, hst2, hr2, hstd2, hen2⟩
  refine ⟨at2, rfl, hbe.trans (hc2.below (B := W0) (fun k hk => h10 k hk) hge), Nat.le_trans hge hc2.size, fun w'' hb => ?_⟩
  have hm1 := (h8.chg hc2 (fun k hk hf => h9 k hf hk)).new hb
  have hgl := h8.lt
  refine (mset_any w'' gm G es key val hm1 hs (by omega) hk1 hk2).mono ?_
  rintro e3 w3 ⟨rfl, G', hm3, hc3, hG3⟩
  have hz1 := hc2.size
  have hz2 := hb.size
  have hz3 := hc3.size
  have hF2l := hv2.lt
  refine ⟨rfl, ⟨s, S, T2, F2, G', N2, d2, t2, Nf2, U2, ha2.symm, (hv2.new' hb).chg hc3 (fun k hk hg => ?_), by omega, hst2, by rw [hr2, h5], hstd2, by rw [hen2, h7], hm3, fun k hk hg => ?_, fun k hk => ?_, fun k hk => ?_⟩, ?_, by omega⟩
  · rcases hF2 k hk with h | h
    · exact h9 k h hg
    · have := hgl k hg; omega
  · rcases hG3 k hg with hg | hg
    · rcases hF2 k hk with h | h
      · exact h9 k h hg
      · have := hgl k hg; omega
    · have := hF2l k hk; omega
  · rcases hF2 k hk with h | h
    · exact h10 k h
    · omega
  · rcases hG3 k hk with h | h
    · exact h11 k h
    · omega
  · exact ((hbe.trans (hc2.below (B := W0) (fun k hk => h10 k hk) hge)).trans (hb.mono (by omega))).trans (hc3.below (B := W0) (fun k hk => h11 k hk) (by omega))
/-- a range of both -/
theorem Side.range {W0 : Nat} {w0 w : World} {p dd gm at_ M Nb : Nat} {es : List En} (h : Side W0 w0 w p dd gm at_ M Nb es) (fr to : Tx) (most : Nat) (hm : most ≤ 4611686018427387904) (hn : es.length ≤ 1000) :
    Calls Try.prog 13 #[.pointer (some ⟨p, 0, none⟩), .int .i64 (at_ : Int), .string (B fr), .string (B to), .int .i64 (most : Int)] w (RgTo w ((rngM es fr to).take most)) := by
  obtain ⟨⟨s, S, T, F, G, N, d, t, Nf, U, h1, h2, h3, h4, h5, h6, h7, h8, h9, h10, h11⟩, hbe, hge⟩ := h
  refine (brange_any w p dd F 1600 s S T true N Nf d t at_ h1 fr to most h4.vw h2 (h6.trok (by rw [h7]; exact hn)) hm).mono ?_
  rintro e w' ⟨pk, ck, pv, cv, es2, he, h⟩
  exact ⟨pk, ck, pv, cv, es2, by rw [he, h7], h⟩
theorem Side.mrange {W0 : Nat} {w0 w : World} {p dd gm at_ M Nb : Nat} {es : List En} (h : Side W0 w0 w p dd gm at_ M Nb es) (fr to : Tx) (most : Nat) (hm : most ≤ 4611686018427387904) (hn : es.length ≤ 1000) :
    Calls Try.prog 14 #[.pointer (some ⟨gm, 0, none⟩), .string (B fr), .string (B to), .int .i64 (most : Int)] w (RgTo w ((rngM es fr to).take most)) := by
  obtain ⟨⟨s, S, T, F, G, N, d, t, Nf, U, h1, h2, h3, h4, h5, h6, h7, h8, h9, h10, h11⟩, hbe, hge⟩ := h
  exact mrange_any w gm G es fr to most h8 (by omega) hm
theorem setM_len (es : List En) (key val : Tx) : (setM es key val).length ≤ es.length + 1 := by
  induction es with
  | nil => simp [setM]
  | cons e es ih =>
    rw [setM]
    split
    · simp only [List.length_cons]; omega
    · split <;> simp
theorem rng_two (es : List En) {f : Tx} (hf : f ≠ []) : (rngM es [] f).length + (rngM es f []).length = es.length := by
  induction es with
  | nil => rfl
  | cons e es ih =>
    have h1 : rngM (e :: es) [] f = (if ltB e.1 f = true then [e] else []) ++ rngM es [] f := by
      unfold rngM
      rw [List.filter_cons]
      have : inR [] f e.1 = ltB e.1 f := by simp [inR, ltB_nil, hf]
      rw [this]
      split <;> simp
    have h2 : rngM (e :: es) f [] = (if ltB e.1 f = true then [] else [e]) ++ rngM es f [] := by
      unfold rngM
      rw [List.filter_cons]
      have : inR f [] e.1 = !ltB e.1 f := by simp [inR]
      rw [this]
      cases ltB e.1 f <;> simp
    rw [h1, h2]
    split <;> simp only [List.length_append, List.length_cons, List.length_nil] <;> omega
/-- a new tree, a new map -/
theorem side_new {W0 : Nat} {w0 w w' : World} {p dd r N : Nat} {F : Nat → Prop} {s : DS} {S T T2 : AS} {gm M : Nat} (hp : PgM 2 w p dd F s S T2 N w') (hst : Sto T2 (updN (fun _ => none) r (some nd0)) (0 + 1) M none) (hr : T2.root = 0) (hN : N ≤ 1) (hF : ∀ k, F k → W0 ≤ k) (hb : Below W0 w0 w) (hge : W0 ≤ w.heap.size)
    (hg : gm = w'.heap.size) : Side W0 w0 (w'.alloc (.cells #[.slice none 0 0, .slice none 0 0] TM)) p dd gm r M 10 [] := by
  obtain ⟨F2, N2, hv, hN2, hc, hF2⟩ := hp
  have hal : Below w'.heap.size w' (w'.alloc (.cells #[.slice none 0 0, .slice none 0 0] TM)) := (Below.refl _ _).alloc (Nat.le_refl _) _
  have hz := hc.size
  have hw := whole_new (T1 := T2) (U := 0) hst
  have hok := hw.ok
  refine ⟨⟨s, S, T2, F2, fun k => k = gm, N2, 0, tr0 r, _, 0 + 1, rfl, hv.new' hal, by omega, hst, hr, ⟨⟨hok.on, hok.fit, hok.asc, hok.nodup, hst.vw⟩, rfl⟩, rfl, ⟨gm, none, 0, none, 0, ⟨by rw [hg]; exact heap_alloc_new _ _, World.ownsRow_nil _ _ _ _, World.ownsRow_nil _ _ _ _, fun g h => (by cases h), ⟨rfl, fun k h => (by cases h), fun k h => (by cases h)⟩, fun k h => ?_⟩⟩, fun k hk h => ?_, fun k hk => ?_, fun k h => ?_⟩, ?_, ?_⟩
  · subst h; exact ⟨Nat.le_refl _, by rw [hg]; simp⟩
  · subst h; have := hv.lt k hk; omega
  · rcases hF2 k hk with h | h
    · exact hF k h
    · omega
  · subst h; omega
  · exact (hb.trans (hc.below (B := W0) (fun k hk => hF k hk) hge)).trans (hal.mono (by omega))
  · have := hal.size; omega

set_option maxRecDepth 100000 in
set_option maxHeartbeats 16000000 in
theorem btreeRanges_walk (a0 : Option Addr) (len0 cap0 : Nat) (z0 : List (List UInt8)) (a1 a2 : ByteArray) (a3 : Int) (w : World) (w0 : IsTexts w a0 len0 cap0 z0) (w1 : a1.size ≤ maxLen) (w2 : a2.size ≤ maxLen) (w3 : (Lit.int .i64 a3).wf = true) :
    Calls Try.prog 4 #[.slice a0 len0 cap0, .string a1, .string a2, .int .i64 a3] w fun e w' => e = .returned (.bool true) ∧ Below w.heap.size w w' := by
  obtain ⟨fr, rfl⟩ : ∃ l, a1 = B l := ⟨_, B_of a1⟩
  obtain ⟨to, rfl⟩ : ∃ l, a2 = B l := ⟨_, B_of a2⟩
  rw [B_size] at w1 w2
  have H0 := hid w0
  have hl0 := w0.2.2.2
  simp only [maxLen] at w1 w2 hl0
  obtain ⟨q, hq, hqb⟩ : ∃ m : Nat, a3 % 70 = (m : Int) ∧ m < 70 := ⟨(a3 % 70).toNat, by omega, by omega⟩
  obtain ⟨q9, hq9, hq9b⟩ : ∃ m : Nat, a3 % 9 = (m : Int) ∧ m < 9 := ⟨(a3 % 9).toNat, by omega, by omega⟩
  have HQ := hid hq
  have HQ9 := hid hq9
  clear w0 w3 hq hq9
  go_enter Try.func4, Try.ntmps4
  go_wp2_with fail
  refine (known5_any w).mono ?_
  rintro e1 wa ⟨rfl, hb1⟩
  have B1 := hid hb1
  clear hb1
  by_cases hc1 : len0 ≤ 60
  case neg =>
    have hc12 : (60 : Int) < (len0 : Int) := by omega
    go_wp2_with fail
    go_ret
    exact ⟨rfl, B1.out⟩
  have hc12 : ¬ (60 : Int) < (len0 : Int) := by omega
  by_cases hc2 : fr.length ≤ 50
  case neg =>
    have hc22 : (50 : Int) < (fr.length : Int) := by omega
    go_wp2_with fail
    go_ret
    exact ⟨rfl, B1.out⟩
  have hc22 : ¬ (50 : Int) < (fr.length : Int) := by omega
  by_cases hc3 : to.length ≤ 50
  case neg =>
    have hc32 : (50 : Int) < (to.length : Int) := by omega
    go_wp2_with fail
    go_ret
    exact ⟨rfl, B1.out⟩
  have hc32 : ¬ (50 : Int) < (to.length : Int) := by omega
  go_wp2_with fail
  refine (open5_any' _).mono ?_
  rintro e4 wb ⟨p, dd, F, N, rfl, hv, hN, hb, hF⟩
  have V1 := hid hv
  have B2 := hid (B1.out.trans (hb.mono B1.out.size))
  have HF : Hid (∀ k, F k → w.heap.size ≤ k) := hid (fun k hk => Nat.le_trans B1.out.size (hF k hk))
  have hzb : w.heap.size ≤ wb.heap.size := B2.out.size
  clear hv hb hF B1
  go_wp2_with fail
  refine (bnew_any wb p dd F _ _ _ N _ 0 1190 V1.out (by omega) (sto_zero 1190) (by omega) (by omega)).mono ?_
  rintro e5 wc ⟨r, T2, rfl, hp3, hs3, _, hk6, hr3⟩
  have HNEW := hid (fun (gm : Nat) (hg : gm = wc.heap.size) => side_new (W0 := w.heap.size) (w0 := w) (T := as0) hp3 hs3 hr3 hN HF.out B2.out hzb hg)
  clear hp3 hs3 hr3
  go_wp2_with fail
  obtain ⟨gm, hgm⟩ : ∃ b, wc.heap.size = b := ⟨_, rfl⟩
  obtain ⟨wd, hwd⟩ : ∃ x, wc.alloc (.cells #[.slice none 0 0, .slice none 0 0] TM) = x := ⟨_, rfl⟩
  have HS := hid (HNEW.out gm hgm.symm)
  rw [hwd] at HS
  rw [hwd, hgm]
  clear hwd hgm HNEW V1 B2 HF
  go_wp2_with fail
  go_loopw [13, 10, 11] (fun v13 v10 v11 wr => ∃ (i at_ : Nat) (es : List En), v13 = .int .i64 (i : Int) ∧ v10 = .int .i64 (at_ : Int) ∧ v11 = .int .i64 0 ∧ i ≤ len0 ∧ es.length ≤ i ∧ Hid (Side w.heap.size w wr p dd gm at_ 1190 (10 + 100 * i) es)) (fun v13 _ _ _ => len0 - (intOf v13).toNat)
  case atStart => exact ⟨0, r, [], rfl, rfl, rfl, Nat.zero_le _, Nat.le_refl _, HS⟩
  case round =>
    obtain ⟨i, at_, es, rfl, rfl, rfl, hi, hes, HSR⟩ := hrel
    by_cases hlt : i < len0
    · have hlt2 : (i : Int) < (len0 : Int) := by omega
      obtain ⟨k, hk⟩ : ∃ k, z0[i]? = some k := ⟨_, List.getElem?_eq_getElem (by rw [H0.out.1]; exact hlt)⟩
      have hkm := H0.out.2.2.1 k (List.mem_of_getElem? hk)
      simp only [maxLen] at hkm
      obtain ⟨ab, ao, rfl, hck⟩ := H0.out.2.1.addr (by omega)
      have hck0 := hck i _ (tv_get hk)
      have hckr : wr.cell? ⟨ab, ao + i, none⟩ = some (.string (B k)) := (HSR.out.below.cell (p := ⟨ab, ao + i, none⟩) (World.block_lt_of_cell? _ _ hck0)).trans hck0
      have HC0 := hid hck0
      have HU8 := hid (u8_nat i)
      clear hck hck0 hk
      by_cases hkl : k.length ≤ 130
      case neg =>
        have hkl2 : (130 : Int) < (k.length : Int) := by omega
        go_wp2_with fail
        go_ret
        exact ⟨rfl, HSR.out.below⟩
      have hkl2 : ¬ (130 : Int) < (k.length : Int) := by omega
      go_wp2_with fail
      obtain ⟨wz, hwz⟩ : ∃ x, wr.drew = x := ⟨_, rfl⟩
      have hbz : Below wr.heap.size wr wz := by rw [← hwz]; exact below_drewN (Below.refl _ _) 1
      have HSz := hid (HSR.out.new hbz)
      have hcz : wz.cell? ⟨ab, ao + i, none⟩ = some (.string (B k)) := (hbz.cell (p := ⟨ab, ao + i, none⟩) (World.block_lt_of_cell? _ _ hckr)).trans hckr
      clear hbz
      refine wp_region_plan3 (fun w' => w'.cell? ⟨ab, ao + i, none⟩ = some (.string (B k))) (fun j => !([8, 9, 10].contains j)) (fun j => [5].contains j) (fun _ => false)
        (.cons 0 (.cons 1 (.cons 2 (.cons 3 (.cons 4 (.cons 5 (.cons 6 (.cons 7 (.cons 8 (.cons 9 (.cons 10 (.cons 11 (.cons 12 (.cons 13 (.cons 14 (.cons 15 .nil)))))))))))))))) (by kernel_rfl) (by kernel_rfl) rfl (by kernel_rfl) (by kernel_rfl) (by rw [hwz]; exact hcz) ?_
      iterate 8 (apply wpPlan3_val; (case ho => rfl); (case hst => rfl); (case hw => rfl); (case hv => intro w' hS; (try have hS := hS rfl); go_simp; first | done | rfl); intro K hK; go_simp; refine hK _ ?_; clear hK K)
      rw [hwz]
      clear hwz hckr
      refine wpPlan3_list rfl rfl rfl (fun K hK => ?_)
      refine wpList_step (fun K2 hK2 => ?_)
      go_simp
      try rw [HU8.out]
      refine hK2 _ _ ?_
      clear hK2 K2
      simp only [wpList]
      obtain ⟨b1, hb1⟩ : ∃ b, wz.heap.size = b := ⟨_, rfl⟩
      obtain ⟨w1, hw1⟩ : ∃ x, wz.alloc (.cells #[.int .u8 ((UInt8.ofNat i).toNat : Int)] TU) = x := ⟨_, rfl⟩
      have hal1 : Below wz.heap.size wz w1 := by rw [← hw1]; exact (Below.refl _ _).alloc (Nat.le_refl _) _
      have HN1 : Hid (Bs w1 (.slice (some ⟨b1, 0, none⟩) 1 1) [UInt8.ofNat i]) := hid (Bs.blk (T := TU) (by rw [← hw1, ← hb1]; exact heap_alloc_new _ _) (by simp) (by simp only [maxLen]; omega))
      rw [hw1, hb1]
      have HS1 := hid (HSz.out.new hal1)
      have hcw1 : w1.cell? ⟨ab, ao + i, none⟩ = some (.string (B k)) := (hal1.cell (p := ⟨ab, ao + i, none⟩) (World.block_lt_of_cell? _ _ hcz)).trans hcz
      clear hal1 hw1 hb1
      refine hK _ _ (fun _ => hcw1) ?_
      clear hK K
      refine wpPlan3_list rfl rfl rfl (fun K hK => ?_)
      refine wpList_bytes_str rfl 30 9 _ rfl 5 Try.underlying30 Try.underlying5 Try.underlying9 (.slice (some ⟨b1, 0, none⟩) 1 1) [UInt8.ofNat i] rfl HN1.out ?_
      simp only [wpList]
      refine hK _ _ (fun _ => hcw1) ?_
      clear hK K
      rw [show (⟨([UInt8.ofNat i] : List UInt8).toArray⟩ : ByteArray) = B [UInt8.ofNat i] from rfl]
      refine wpPlan3_list rfl rfl rfl (fun K hK => ?_)
      refine wpList_step (fun K2 hK2 => ?_)
      go_simp
      have hNb : 10 + 100 * i ≤ 900000 := by omega
      refine (HS1.out.set k [UInt8.ofNat i] (by omega) (by simp; omega) (by omega) hNb (by omega) (by omega)).mono ?_
      rintro e2 w2 ⟨at2, rfl, hbw2, hge2, hnext⟩
      have HNX := hid hnext
      have hc2w : w2.cell? ⟨ab, ao + i, none⟩ = some (.string (B k)) := (hbw2.cell (p := ⟨ab, ao + i, none⟩) (World.block_lt_of_cell? _ _ HC0.out)).trans HC0.out
      clear hnext hbw2 hcz hcw1 HSR HSz HS1
      go_simp
      refine hK2 _ _ ?_
      clear hK2 K2
      simp only [wpList]
      refine hK _ _ (fun _ => hc2w) ?_
      clear hK K
      iterate 5 (apply wpPlan3_val; (case ho => rfl); (case hst => rfl); (case hw => rfl); (case hv => intro w' hS; (try have hS := hS rfl); go_simp; first | done | rfl); intro K hK; go_simp; refine hK _ ?_; clear hK K)
      refine wpPlan3_nil ?_
      simp only [Qn]
      go_wp2_with fail
      obtain ⟨wy, hwy⟩ : ∃ x, w2.drew = x := ⟨_, rfl⟩
      have hby : Below w2.heap.size w2 wy := by rw [← hwy]; exact below_drewN (Below.refl _ _) 1
      have HBy := hid hby
      have hsy := hby.size
      have hcy : wy.cell? ⟨ab, ao + i, none⟩ = some (.string (B k)) := (hby.cell (p := ⟨ab, ao + i, none⟩) (World.block_lt_of_cell? _ _ hc2w)).trans hc2w
      clear hby
      refine wp_region_plan3 (fun w' => w'.cell? ⟨ab, ao + i, none⟩ = some (.string (B k))) (fun j => !([7, 8, 9].contains j)) (fun j => [4].contains j) (fun _ => false)
        (.cons 0 (.cons 1 (.cons 2 (.cons 3 (.cons 4 (.cons 5 (.cons 6 (.cons 7 (.cons 8 (.cons 9 .nil)))))))))) (by kernel_rfl) (by kernel_rfl) rfl (by kernel_rfl) (by kernel_rfl) (by rw [hwy]; exact hcy) ?_
      iterate 7 (apply wpPlan3_val; (case ho => rfl); (case hst => rfl); (case hw => rfl); (case hv => intro w' hS; (try have hS := hS rfl); go_simp; first | done | rfl); intro K hK; go_simp; refine hK _ ?_; clear hK K)
      rw [hwy]
      clear hwy hc2w
      refine wpPlan3_list rfl rfl rfl (fun K hK => ?_)
      refine wpList_step (fun K2 hK2 => ?_)
      go_simp
      try rw [HU8.out]
      refine hK2 _ _ ?_
      clear hK2 K2
      simp only [wpList]
      obtain ⟨b5, hb5⟩ : ∃ b, wy.heap.size = b := ⟨_, rfl⟩
      obtain ⟨w5, hw5⟩ : ∃ x, wy.alloc (.cells #[.int .u8 ((UInt8.ofNat i).toNat : Int)] TU) = x := ⟨_, rfl⟩
      have hal5 : Below wy.heap.size wy w5 := by rw [← hw5]; exact (Below.refl _ _).alloc (Nat.le_refl _) _
      have HN5 : Hid (Bs w5 (.slice (some ⟨b5, 0, none⟩) 1 1) [UInt8.ofNat i]) := hid (Bs.blk (T := TU) (by rw [← hw5, ← hb5]; exact heap_alloc_new _ _) (by simp) (by simp only [maxLen]; omega))
      rw [hw5, hb5]
      have HB5 := hid (HBy.out.trans (hal5.mono hsy))
      have hcw5 : w5.cell? ⟨ab, ao + i, none⟩ = some (.string (B k)) := (hal5.cell (p := ⟨ab, ao + i, none⟩) (World.block_lt_of_cell? _ _ hcy)).trans hcy
      clear hal5 hw5 hb5
      refine hK _ _ (fun _ => hcw5) ?_
      clear hK K
      refine wpPlan3_list rfl rfl rfl (fun K hK => ?_)
      refine wpList_bytes_str rfl 30 9 _ rfl 5 Try.underlying30 Try.underlying5 Try.underlying9 (.slice (some ⟨b5, 0, none⟩) 1 1) [UInt8.ofNat i] rfl HN5.out ?_
      simp only [wpList]
      refine hK _ _ (fun _ => hcw5) ?_
      clear hK K
      rw [show (⟨([UInt8.ofNat i] : List UInt8).toArray⟩ : ByteArray) = B [UInt8.ofNat i] from rfl]
      refine wpPlan3_list rfl rfl rfl (fun K hK => ?_)
      refine wpList_step (fun K2 hK2 => ?_)
      go_simp
      refine (HNX.out w5 HB5.out).mono ?_
      rintro e6 w6 ⟨rfl, hside⟩
      have HS6 := hid hside
      have hc6w : w6.cell? ⟨ab, ao + i, none⟩ = some (.string (B k)) := (hside.below.cell (p := ⟨ab, ao + i, none⟩) (World.block_lt_of_cell? _ _ HC0.out)).trans HC0.out
      clear hside hcy hcw5 HNX HB5 HBy hsy
      go_simp
      refine hK2 _ _ ?_
      clear hK2 K2
      simp only [wpList]
      refine hK _ _ (fun _ => hc6w) ?_
      clear hK K
      refine wpPlan3_nil ?_
      simp only [Qn]
      go_wp2_with fail
      go_roundw
      case rel => exact ⟨i + 1, at2, setM es k [UInt8.ofNat i], by first | rfl | (congr 1), rfl, rfl, hlt, by have := setM_len es k [UInt8.ofNat i]; omega, by rw [show 10 + 100 * (i + 1) = 10 + 100 * i + 100 by omega]; exact HS6⟩
      case measure => simp [intOf]; omega
    · have hlt2 : ¬ (i : Int) < (len0 : Int) := by omega
      have hes60 : es.length ≤ 60 := by omega
      obtain ⟨Nb, hNb⟩ : ∃ x, 10 + 100 * i = x := ⟨_, rfl⟩
      rw [hNb] at HSR
      go_wp2_with fail
      clear hNb hlt hlt2 hes hi
      go_loopw [14] (fun v14 wq => ∃ n : Nat, v14 = .int .i64 (n : Int) ∧ n ≤ 4 ∧ Hid (Side w.heap.size w wq p dd gm at_ 1190 Nb es)) (fun v14 _ => 4 - (intOf v14).toNat)
      case atStart => exact ⟨0, rfl, by omega, HSR⟩
      case round =>
        obtain ⟨n, rfl, hn, HSQ⟩ := hrel
        by_cases hn4 : n < 4
        · have hn42 : (n : Int) < 4 := by omega
          obtain ⟨m, hm⟩ : ∃ m, q * n = m := ⟨_, rfl⟩
          have hmb : m ≤ 280 := by rw [← hm]; exact Nat.le_trans (Nat.mul_le_mul (Nat.le_of_lt hqb) hn) (by decide)
          have hqm : (q : Int) * (n : Int) = (m : Int) := by rw [← hm]; exact (Int.natCast_mul q n).symm
          have hqw : IntKind.i64.wrap ((q : Int) * (n : Int)) = (m : Int) := by rw [hqm]; exact IntWalk.i64_in _ ⟨by omega, by omega⟩
          clear hm
          go_wp2_with fail
          refine (within5_any _ a3 70 (by decide) (by decide)).mono ?_
          rintro e7 wx ⟨rfl, hwx⟩
          subst hwx
          rw [HQ.out]
          go_wp2_with fail
          refine (HSQ.out.range fr to m (by omega) (by omega)).mono ?_
          rintro e8 w8 ⟨pk8, ck8, pv8, cv8, es8, he8, rfl, hk8, hv8, hb8⟩
          have HE8 := hid he8
          have HK8 := hid hk8
          have HV8 := hid hv8
          have HS8 := hid (HSQ.out.new hb8)
          have hz8 := hb8.size
          have hl8 : es8.length ≤ 60 := by rw [he8, List.length_take]; have := rng_le es fr to; omega
          obtain ⟨L, hL⟩ : ∃ L, es8.length = L := ⟨_, rfl⟩
          have HL := hid hL
          rw [hL] at HK8 HV8 hl8 ⊢
          clear hk8 hv8 hb8 he8 hL HSQ
          go_wp2_with fail
          refine (within5_any w8 a3 70 (by decide) (by decide)).mono ?_
          rintro e9 wx ⟨rfl, hwx⟩
          subst hwx
          rw [HQ.out]
          go_wp2_with fail
          refine (HS8.out.mrange fr to m (by omega) (by omega)).mono ?_
          rintro e10 w10 ⟨pk10, ck10, pv10, cv10, es10, he10, rfl, hk10, hv10, hb10⟩
          obtain rfl : es10 = es8 := by rw [he10, HE8.out]
          have HK9 := hid (own_new HK8.out hb10)
          have HV9 := hid (own_new HV8.out hb10)
          rw [HL.out] at hk10 hv10 ⊢
          have HK10 := hid hk10
          have HV10 := hid hv10
          have HS10 := hid (HS8.out.new hb10)
          clear hk10 hv10 hb10 he10 HK8 HV8 HS8
          go_wp2_with fail
          refine (rows_any w10 pk8 ck8 pk10 ck10 L (es10.map (·.1)) (Rd.of_own HK9.out) (Rd.of_own HK10.out) (by rw [List.length_map, HL.out]) (by omega)).mono ?_
          rintro e11 w11 ⟨rfl, hb11⟩
          have HV11 := hid (own_new HV9.out hb11)
          have HV12 := hid (own_new HV10.out hb11)
          have HS11 := hid (HS10.out.new hb11)
          clear hb11 HK9 HK10 HV9 HV10 HS10
          go_wp2_with fail
          refine (rows_any w11 pv8 cv8 pv10 cv10 L (es10.map (·.2)) (Rd.of_own HV11.out) (Rd.of_own HV12.out) (by rw [List.length_map, HL.out]) (by omega)).mono ?_
          rintro e12 w12 ⟨rfl, hb12⟩
          have HS12 := hid (HS11.out.new hb12)
          clear hb12 HV11 HV12 HS11
          go_wp2_with fail
          go_roundw
          case rel => exact ⟨n + 1, by first | rfl | (congr 1), by omega, HS12⟩
          case measure => simp [intOf]; omega
        · have hn42 : ¬ (n : Int) < 4 := by omega
          go_wp2_with fail
          refine (HSQ.out.range [] fr 1000 (by omega) (by omega)).mono ?_
          rintro e8 w8 ⟨pk8, ck8, pv8, cv8, es8, he8, rfl, hk8, hv8, hb8⟩
          have HS8 := hid (HSQ.out.new hb8)
          have HE8 := hid he8
          obtain ⟨L8, hL8⟩ : ∃ L, es8.length = L := ⟨_, rfl⟩
          have hl8 : L8 ≤ 60 := by rw [← hL8, he8, List.length_take]; have := rng_le es [] fr; omega
          have HL8 := hid hL8
          rw [hL8]
          clear hk8 hv8 hb8 he8 hL8 HSQ
          go_wp2_with fail
          refine (HS8.out.range fr [] 1000 (by omega) (by omega)).mono ?_
          rintro e9 w9 ⟨pk9, ck9, pv9, cv9, es9, he9, rfl, hk9, hv9, hb9⟩
          have HS9 := hid (HS8.out.new hb9)
          have HE9 := hid he9
          obtain ⟨L9, hL9⟩ : ∃ L, es9.length = L := ⟨_, rfl⟩
          have hl9 : L9 ≤ 60 := by rw [← hL9, he9, List.length_take]; have := rng_le es fr []; omega
          have HL9 := hid hL9
          rw [hL9]
          clear hk9 hv9 hb9 he9 hL9 HS8
          go_wp2_with fail
          refine (within5_any w9 a3 9 (by decide) (by decide)).mono ?_
          rintro e10 wx ⟨rfl, hwx⟩
          subst hwx
          rw [HQ9.out]
          go_wp2_with fail
          refine (brange_arg _ (.pointer (some ⟨p, 0, none⟩)) (.int .i64 (at_ : Int)) (.string (B [])) (.string (B [])) (-1 - (q9 : Int)) (by omega)).mono ?_
          rintro e11 wx ⟨rfl, hwx⟩
          subst hwx
          obtain ⟨⟨_, _, _, _, _, _, _, _, _, _, _, _, _, _, _, _, _, hmp, _⟩, hbel, _⟩ := HS9.out
          obtain ⟨B0, pk, ck, pv, cv, hm⟩ := hmp
          obtain ⟨n9, hn9⟩ : ∃ n, es.length = n := ⟨_, rfl⟩
          have hblk := hm.blk
          rw [hn9] at hblk hes60
          obtain ⟨x0, x1, f0, f1⟩ := mp_cells hblk
          have HBE := hid hbel
          have HN9 := hid hn9
          clear hm hblk hbel hn9
          cases hfe : (fr == [])
          case true =>
            go_wp2_with fail
            go_ret
            exact ⟨rfl, HBE.out⟩
          case false =>
            have hsum : L8 + L9 = n9 := by
              have h1 := rng_two es (f := fr) (by simpa using hfe)
              have h2 := rng_le es [] fr
              have h3 := rng_le es fr []
              rw [← HL8.out, ← HL9.out, HE8.out, HE9.out, List.take_of_length_le (by rw [HN9.out] at h2; omega), List.take_of_length_le (by rw [HN9.out] at h3; omega), h1, HN9.out]
            have hsum2 : (L8 : Int) + (L9 : Int) = (n9 : Int) := by omega
            go_wp2_with fail
            go_ret
            exact ⟨by simp, HBE.out⟩
end Go.Proofs.Ytdilkgcoecipjaa
