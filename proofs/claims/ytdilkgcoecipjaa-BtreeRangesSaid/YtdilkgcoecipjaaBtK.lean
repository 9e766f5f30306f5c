/- btree: walker.keep. -/
import Derived.Test.YtdilkgcoecipjaaM7
namespace Go.Proofs.Ytdilkgcoecipjaa
open Go.RowKit
set_option linter.unusedVariables false

abbrev TW : TypeId := 71
/-- a walker's cells -/
def wkC (p : Nat) (fr to : Tx) (most : Nat) (mp : Nat) (pp : Option Addr) (np cp : Nat) (pk : Option Addr) (k ck : Nat) (pv : Option Addr) (k2 cv : Nat) : List Value :=
  [.pointer (some ⟨p, 0, none⟩), .string (B fr), .string (B to), .int .i64 (most : Int), .map (some mp), .slice pp np cp, .slice pk k ck, .slice pv k2 cv]
theorem wk_cells {w : World} {g p : Nat} {fr to : Tx} {most mp : Nat} {pp : Option Addr} {np cp : Nat} {pk : Option Addr} {k ck : Nat} {pv : Option Addr} {k2 cv : Nat} {T : TypeId} (h : Blk w g (wkC p fr to most mp pp np cp pk k ck pv k2 cv) T) :
    w.cell? ⟨g, 0, none⟩ = some (.pointer (some ⟨p, 0, none⟩)) ∧ w.cell? ⟨g, 1, none⟩ = some (.string (B fr)) ∧ w.cell? ⟨g, 2, none⟩ = some (.string (B to)) ∧ w.cell? ⟨g, 3, none⟩ = some (.int .i64 (most : Int)) ∧ w.cell? ⟨g, 4, none⟩ = some (.map (some mp)) ∧
    w.cell? ⟨g, 5, none⟩ = some (.slice pp np cp) ∧ w.cell? ⟨g, 6, none⟩ = some (.slice pk k ck) ∧ w.cell? ⟨g, 7, none⟩ = some (.slice pv k2 cv) ∧ w.frozen? ⟨g, 6, none⟩ = false ∧ w.frozen? ⟨g, 7, none⟩ = false :=
  ⟨h.cell 0, h.cell 1, h.cell 2, h.cell 3, h.cell 4, h.cell 5, h.cell 6, h.cell 7, h.frozen 6, h.frozen 7⟩
theorem rd_val {w : World} {gx : Nat} {v : Value} {e : TypeId} (h : Blk w gx [v] e) : Rd w 1 (.slice (some ⟨gx, 0, none⟩) 1 1) 1 [v] := by
  refine ⟨rfl, _, _, rfl, Nat.le_refl _, one_le_maxLen, (fun h => by cases h), fun a ha j u hu => ?_⟩
  cases ha
  refine ⟨rfl, ?_⟩
  rw [h.cell, Nat.zero_add]
  exact hu
theorem Chg.drewR {fp : Nat → Prop} {w w' : World} (h : Chg fp w w') (n : Nat) : Chg fp w (w'.drewN n) := ⟨h.os, h.tape, h.output, h.size, h.block⟩
/-- what keep hands back -/
def KeepP (L es es' : List En) (fr to : Tx) (most : Nat) (more : Bool) : Prop :=
  es' = (es ++ rngM L fr to).take most ∧ (more = true → es'.length < most) ∧ (more = false → most ≤ es'.length ∨ (to ≠ [] ∧ ∃ e ∈ L, ltB e.1 to = false))

theorem keep_stop {L es0 es : List En} {fr to : Tx} {most i : Nat} {k u : Tx} (hS : Srt L) {hil : i < L.length} (hL : L[i] = (k, u)) (hes : es = es0 ++ rngM (L.take i) fr to) (hle : es.length ≤ most) (h : most ≤ es.length ∨ (to ≠ [] ∧ ltB k to = false)) : KeepP L es0 es fr to most false := by
  have hsp : rngM L fr to = rngM (L.take i) fr to ++ rngM (L.drop i) fr to := by rw [← rngM_app, List.take_append_drop]
  refine ⟨?_, fun h => (by cases h), fun _ => ?_⟩
  · rw [hsp, ← List.append_assoc, ← hes]
    rcases h with h | ⟨h1, h2⟩
    · rw [List.take_append_of_le_length h, List.take_of_length_le (by omega)]
    · rw [rngM_high h1, List.append_nil, List.take_of_length_le hle]
      intro e he
      obtain ⟨j, hj, rfl⟩ := List.mem_iff_getElem.1 he
      rw [List.getElem_drop]
      cases j with
      | zero => simpa [hL] using h2
      | succ j =>
        have := srt_lt hS (i := i) (j := i + (j + 1)) (by rw [List.length_drop] at hj; omega) (by omega)
        rw [hL] at this
        exact ltB_le_trans h2 (ltB_asym this)
  · rcases h with h | ⟨h1, h2⟩
    · exact .inl h
    · exact .inr ⟨h1, L[i], List.getElem_mem hil, by rw [hL]; exact h2⟩

set_option maxRecDepth 100000 in
set_option maxHeartbeats 16000000 in
theorem keep_any (w : World) (g p : Nat) (fr to : Tx) (most mp : Nat) (pp : Option Addr) (np cp : Nat) (pk0 : Option Addr) (ck0 : Nat) (pv0 : Option Addr) (cv0 : Nat) (es0 : List En) (L : List En) (k0 nl : Nat) (W0 : Nat)
    (qk : Option Addr) (dk : Nat) (qv : Option Addr) (dv : Nat) (qd : Option Addr) (md dd : Nat)
    (hg : Blk w g (wkC p fr to most mp pp np cp pk0 k0 ck0 pv0 k0 cv0) TW) (hk : w.ownsRow W0 TSt 1 (.slice pk0 k0 ck0) k0 (tv (es0.map (·.1)))) (hv : w.ownsRow W0 TSt 1 (.slice pv0 k0 cv0) k0 (tv (es0.map (·.2)))) (hne : NeB (.slice pk0 k0 ck0) (.slice pv0 k0 cv0)) (hW : W0 ≤ w.heap.size)
    (hk0 : es0.length = k0) (hnl : L.length = nl) (hnl2 : nl ≤ 100000) (hk02 : k0 ≤ 1000000) (hm0 : k0 ≤ most) (hm1 : most ≤ 4611686018427387904) (hS : Srt L)
    (hn1 : Rd w 1 (.slice qk nl dk) nl (tv (L.map (·.1)))) (hn2 : Rd w 1 (.slice qv nl dv) nl (tv (L.map (·.2))))
    (hnb : ∀ b, (Value.ownBlock (.slice qk nl dk) = some b ∨ Value.ownBlock (.slice qv nl dv) = some b) → Value.ownBlock (.slice pk0 k0 ck0) ≠ some b ∧ Value.ownBlock (.slice pv0 k0 cv0) ≠ some b ∧ b ≠ g) :
    Calls Try.prog 66 #[.pointer (some ⟨g, 0, none⟩), ndV true qk nl dk qv nl dv qd md dd] w fun e w' => ∃ more es' pk ck pv cv, e = .returned (.bool more) ∧ KeepP L es0 es' fr to most more ∧ Blk w' g (wkC p fr to most mp pp np cp pk es'.length ck pv es'.length cv) TW ∧
      w'.ownsRow W0 TSt 1 (.slice pk es'.length ck) es'.length (tv (es'.map (·.1))) ∧ w'.ownsRow W0 TSt 1 (.slice pv es'.length cv) es'.length (tv (es'.map (·.2))) ∧ NeB (.slice pk es'.length ck) (.slice pv es'.length cv) ∧
      Chg (fun x => x = g ∨ Value.ownBlock (.slice pk0 k0 ck0) = some x ∨ Value.ownBlock (.slice pv0 k0 cv0) = some x) w w' ∧ (∀ x, Value.ownBlock (.slice pk es'.length ck) = some x → Value.ownBlock (.slice pk0 k0 ck0) = some x ∨ w.heap.size ≤ x) ∧ (∀ x, Value.ownBlock (.slice pv es'.length cv) = some x → Value.ownBlock (.slice pv0 k0 cv0) = some x ∨ w.heap.size ≤ x) := by
  have HG0 := hid hg
  have HK0 := hid hk
  have HV0 := hid hv
  have HNE0 := hid hne
  have HL0 := hid hk0
  have HNL := hid hnl
  have HSL := hid hS
  have HN1 := hid hn1
  have HN2 := hid hn2
  have HNB0 := hid hnb
  have hgw := hg.lt
  clear hg hk hv hne hk0 hnl hS hn1 hn2 hnb
  unfold ndV
  go_enter Try.func66, Try.ntmps66
  go_wp2_with fail
  obtain ⟨t3, ht3⟩ : ∃ b, w.heap.size = b := ⟨_, rfl⟩
  obtain ⟨w1, hw1⟩ : ∃ x, w.alloc (.cells #[.bool true, .slice qk nl dk, .slice qv nl dv, .slice qd md dd] 59) = x := ⟨_, rfl⟩
  have hal : Below w.heap.size w w1 := by rw [← hw1]; exact (Below.refl _ _).alloc (Nat.le_refl _) _
  have HT1 : Hid (Blk w1 t3 [.bool true, .slice qk nl dk, .slice qv nl dv, .slice qd md dd] TN) := hid (by rw [← hw1, ← ht3]; exact heap_alloc_new _ _)
  have HG1 := hid (HG0.out.chg (Chg.new hal NoFp) (fun h => h))
  have HK1 := hid (own_new HK0.out hal)
  have HV1 := hid (own_new HV0.out hal)
  have HC1 : Hid (Chg (fun x => x = g ∨ Value.ownBlock (.slice pk0 k0 ck0) = some x ∨ Value.ownBlock (.slice pv0 k0 cv0) = some x) w w1) := hid (Chg.new hal _)
  have hs1 := hal.size
  rw [hw1, ht3]
  rw [ht3] at hgw
  have HT3 := hid ht3
  clear hw1 hal ht3
  go_loopw [10] (fun vi wr => ∃ (i : Nat) (es : List En) (pk : Option Addr) (ck : Nat) (pv : Option Addr) (cv : Nat), vi = .int .i64 i ∧ i ≤ nl ∧ w.heap.size ≤ wr.heap.size ∧ es.length ≤ most ∧ es.length ≤ k0 + i ∧ Hid (es = es0 ++ rngM (L.take i) fr to) ∧ Hid (Blk wr g (wkC p fr to most mp pp np cp pk es.length ck pv es.length cv) TW) ∧
    Hid (wr.ownsRow W0 TSt 1 (.slice pk es.length ck) es.length (tv (es.map (·.1)))) ∧ Hid (wr.ownsRow W0 TSt 1 (.slice pv es.length cv) es.length (tv (es.map (·.2)))) ∧ Hid (NeB (.slice pk es.length ck) (.slice pv es.length cv)) ∧ Hid (Blk wr t3 [.bool true, .slice qk nl dk, .slice qv nl dv, .slice qd md dd] TN) ∧
    Hid (∀ x, Value.ownBlock (.slice pk es.length ck) = some x → Value.ownBlock (.slice pk0 k0 ck0) = some x ∨ w.heap.size ≤ x) ∧ Hid (∀ x, Value.ownBlock (.slice pv es.length cv) = some x → Value.ownBlock (.slice pv0 k0 cv0) = some x ∨ w.heap.size ≤ x) ∧
    Hid (Chg (fun x => x = g ∨ Value.ownBlock (.slice pk0 k0 ck0) = some x ∨ Value.ownBlock (.slice pv0 k0 cv0) = some x) w wr)) (fun vi _ => nl - (intOf vi).toNat)
  case atStart => exact ⟨0, es0, pk0, ck0, pv0, cv0, rfl, Nat.zero_le _, hs1, by rw [HL0.out]; exact hm0, by rw [HL0.out]; omega, hid (by simp [rngM]), by rw [HL0.out]; exact HG1, by rw [HL0.out]; exact HK1, by rw [HL0.out]; exact HV1, by rw [HL0.out]; exact HNE0, HT1, by rw [HL0.out]; exact hid (fun x h => .inl h), by rw [HL0.out]; exact hid (fun x h => .inl h), HC1⟩
  case round =>
    obtain ⟨i, es, pk, ck, pv, cv, rfl, hi, hsr, hle, hlk, HES, HG, HK, HV, HNE, HT, HPK, HPV, HC⟩ := hrel
    obtain ⟨y0, y1, y2, y3, y4, y5, y6, y7, z6, z7⟩ := wk_cells HG.out
    by_cases hlt : i < nl
    · have hlt2 : (i : Int) < (nl : Int) := by omega
      have hil : i < L.length := by rw [HNL.out]; exact hlt
      obtain ⟨k, hkk⟩ : ∃ k, (L[i]).1 = k := ⟨_, rfl⟩
      obtain ⟨u, huu⟩ : ∃ u, (L[i]).2 = u := ⟨_, rfl⟩
      obtain ⟨bk, ok, hqk, hcc⟩ := HN1.out.addr (by omega)
      have hck0 : w.cell? ⟨bk, ok + i, none⟩ = some (.string (B k)) := hcc i _ (tv_get (by rw [List.getElem?_map, List.getElem?_eq_getElem hil, ← hkk]; rfl))
      obtain ⟨bv, ov, hqv, hcv⟩ := HN2.out.addr (by omega)
      have hcv0 : w.cell? ⟨bv, ov + i, none⟩ = some (.string (B u)) := hcv i _ (tv_get (by rw [List.getElem?_map, List.getElem?_eq_getElem hil, ← huu]; rfl))
      subst hqk
      subst hqv
      have hbk := HNB0.out bk (.inl rfl)
      have hbv := HNB0.out bv (.inr rfl)
      have hlk2 := World.block_lt_of_cell? w _ hck0
      have hlv2 := World.block_lt_of_cell? w _ hcv0
      have hck : wr.cell? ⟨bk, ok + i, none⟩ = some (.string (B k)) := (World.cell?_of_block (w := w) (a := ⟨bk, ok + i, none⟩) (HC.out.block bk hlk2 (fun h => by rcases h with h | h | h; exact hbk.2.2 h; exact hbk.1 h; exact hbk.2.1 h))).trans hck0
      have HU := hid (show wr.cell? ⟨bv, ov + i, none⟩ = some (.string (B u)) from (World.cell?_of_block (w := w) (a := ⟨bv, ov + i, none⟩) (HC.out.block bv hlv2 (fun h => by rcases h with h | h | h; exact hbv.2.2 h; exact hbv.1 h; exact hbv.2.1 h))).trans hcv0)
      have HNB := hid (show Value.ownBlock (.slice pk0 k0 ck0) ≠ some bv ∧ Value.ownBlock (.slice pv0 k0 cv0) ≠ some bv ∧ t3 ≠ g ∧ bv < w.heap.size from ⟨hbv.1, hbv.2.1, by omega, hlv2⟩)
      have HLI := hid (show L[i] = (k, u) by rw [← hkk, ← huu])
      have HTK := hid (show L.take (i + 1) = L.take i ++ [(k, u)] by rw [List.take_add_one, List.getElem?_eq_getElem hil, HLI.out]; rfl)
      have hlk3 : bk < w.heap.size := hlk2
      clear hkk huu hcc hcv hck0 hcv0 hbk hbv hlk2 hlv2
      cases hfr : ltB k fr
      · have HRG1 : rngM [(k, u)] fr to = if (to == [] || ltB k to) = true then [(k, u)] else [] := by
          simp [rngM, List.filter_cons, inR, hfr]
        by_cases hm : es.length < most
        · have hm2 : ¬ (most : Int) ≤ (es.length : Int) := by omega
          cases hto : (to == [])
          · cases hkt : ltB k to
            · have HRG := hid (show KeepP L es0 es fr to most false from keep_stop HSL.out HLI.out HES.out hle (.inr ⟨by simpa using hto, hkt⟩))
              clear HRG1
              go_wp2_with fail
              go_quiet (fail)
              go_wp2_with fail
              go_ret
              exact ⟨false, es, pk, ck, pv, cv, rfl, HRG.out, HG.out, HK.out, HV.out, HNE.out, HC.out.drewR _, HPK.out, HPV.out⟩
            · rw [if_pos (by rw [hkt]; simp)] at HRG1
              have HRG := hid HRG1
              have HLE := hid hm
              clear HRG1
              go_wp2_with fail
              go_quiet (fail)
              go_wp2_with fail
              obtain ⟨wq, hwq⟩ : ∃ x, wr.drewN nq = x := ⟨_, rfl⟩
              have HGq := hid (show Blk wq g (wkC p fr to most mp pp np cp pk es.length ck pv es.length cv) TW by rw [← hwq]; exact HG.out)
              have HTq := hid (show Blk wq t3 [.bool true, .slice (some ⟨bk, ok, none⟩) nl dk, .slice (some ⟨bv, ov, none⟩) nl dv, .slice qd md dd] TN by rw [← hwq]; exact HT.out)
              have HUq := hid (show wq.cell? ⟨bv, ov + i, none⟩ = some (.string (B u)) by rw [← hwq]; exact HU.out)
              have HKq := hid (show wq.ownsRow W0 TSt 1 (.slice pk es.length ck) es.length (tv (es.map (·.1))) by rw [← hwq]; exact HK.out)
              have HVq := hid (show wq.ownsRow W0 TSt 1 (.slice pv es.length cv) es.length (tv (es.map (·.2))) by rw [← hwq]; exact HV.out)
              have HCq := hid (show Chg (fun x => x = g ∨ Value.ownBlock (.slice pk0 k0 ck0) = some x ∨ Value.ownBlock (.slice pv0 k0 cv0) = some x) w wq by rw [← hwq]; exact HC.out.drewR _)
              rw [hwq]
              clear hwq HG HT HU HK HV HC y0 y1 y2 y3 y4 y5 y6 y7 z6 z7 hck hsr
              refine wp_region_plan3 (fun w' => Blk w' g (wkC p fr to most mp pp np cp pk es.length ck pv es.length cv) TW ∧ Blk w' t3 [.bool true, .slice (some ⟨bk, ok, none⟩) nl dk, .slice (some ⟨bv, ov, none⟩) nl dv, .slice qd md dd] TN ∧ w'.cell? ⟨bv, ov + i, none⟩ = some (.string (B u))) (fun j => !([7, 8, 18, 19, 22, 25].contains j)) (fun j => [5, 12, 14, 17].contains j) (fun j => [22, 25].contains j)
                (.cons 0 (.cons 1 (.cons 2 (.cons 3 (.cons 4 (.cons 5 (.cons 6 (.cons 9 (.cons 10 (.cons 11 (.cons 12 (.cons 13 (.cons 14 (.cons 15 (.cons 16 (.cons 17 (.fork 7 18 (.fork 8 18 (.cons 18 (.cons 19 (.cons 20 (.cons 21 (.cons 22 (.cons 23 (.cons 24 (.cons 25 .nil)))))))) (.cons 8 (.cons 19 (.cons 20 (.cons 21 (.cons 22 (.cons 23 (.cons 24 (.cons 25 .nil))))))))) (.cons 7 (.cons 8 (.cons 19 (.cons 20 (.cons 21 (.cons 22 (.cons 23 (.cons 24 (.cons 25 .nil)))))))))))))))))))))))))) (by kernel_rfl) (by kernel_rfl) rfl (by kernel_rfl) (by kernel_rfl) ⟨HGq.out, HTq.out, HUq.out⟩ ?_
              iterate 16 (apply wpPlan3_val; (case ho => rfl); (case hst => rfl); (case hw => rfl); (case hv => intro w' hS; (try (have hS := hS rfl; obtain ⟨x0, x1, x2, x3, x4, x5, x6, x7, _, _⟩ := wk_cells hS.1; obtain ⟨x8, x9, x10, x11, _, _, _, _⟩ := four_cells hS.2.1; have x12 := hS.2.2)); go_simp; first | done | rfl); intro K hK; go_simp; refine hK _ ?_; clear hK K)
              obtain ⟨wz, hwz⟩ : ∃ x, wq.drew = x := ⟨_, rfl⟩
              have HGz := hid (show Blk wz g (wkC p fr to most mp pp np cp pk es.length ck pv es.length cv) TW by rw [← hwz]; exact HGq.out)
              have HTz := hid (show Blk wz t3 [.bool true, .slice (some ⟨bk, ok, none⟩) nl dk, .slice (some ⟨bv, ov, none⟩) nl dv, .slice qd md dd] TN by rw [← hwz]; exact HTq.out)
              have HUz := hid (show wz.cell? ⟨bv, ov + i, none⟩ = some (.string (B u)) by rw [← hwz]; exact HUq.out)
              have HKz := hid (show wz.ownsRow W0 TSt 1 (.slice pk es.length ck) es.length (tv (es.map (·.1))) by rw [← hwz]; exact HKq.out)
              have HVz := hid (show wz.ownsRow W0 TSt 1 (.slice pv es.length cv) es.length (tv (es.map (·.2))) by rw [← hwz]; exact HVq.out)
              have HCz := hid (show Chg (fun x => x = g ∨ Value.ownBlock (.slice pk0 k0 ck0) = some x ∨ Value.ownBlock (.slice pv0 k0 cv0) = some x) w wz by rw [← hwz]; exact HCq.out.drewR 1)
              rw [hwz]
              clear hwz HGq HTq HUq HKq HVq HCq
              refine ⟨?_, ?_⟩
              · refine effect_list rfl rfl (fun K hK => ?_)
                refine wpList_step (fun K2 hK2 => ?_)
                go_simp
                refine hK2 _ _ ?_
                clear hK2 K2
                simp only [wpList]
                have hal1 : Below wz.heap.size wz (wz.alloc (.cells #[.string (B k)] TSt)) := (Below.refl _ _).alloc (Nat.le_refl _) _
                obtain ⟨b1, hb1⟩ : ∃ b, wz.heap.size = b := ⟨_, rfl⟩
                obtain ⟨w1, hw1⟩ : ∃ x, wz.alloc (.cells #[.string (B k)] TSt) = x := ⟨_, rfl⟩
                have HN1 : Hid (Blk w1 b1 [.string (B k)] TSt ∧ b1 < w1.heap.size) := hid (by rw [← hw1, ← hb1]; exact ⟨heap_alloc_new _ _, by simp⟩)
                rw [hw1] at hal1 ⊢
                rw [hb1]
                clear hw1
                have HG1 := hid (HGz.out.chg (Chg.new hal1 NoFp) (fun h => h))
                have HT1 := hid (HTz.out.chg (Chg.new hal1 NoFp) (fun h => h))
                have HU1 := hid ((hal1.cell (p := ⟨bv, ov + i, none⟩) (World.block_lt_of_cell? _ _ HUz.out)).trans HUz.out)
                have HK1 := hid (own_new HKz.out hal1)
                have HV1 := hid (own_new HVz.out hal1)
                have HC1 := hid (HCz.out.trans (Chg.new hal1 NoFp) (fun _ _ h => h.elim))
                have F1 := hid (show Value.ownBlock (.slice pv es.length cv) ≠ some b1 from fun h => by have := (own_lt HVz.out _ h).2; omega)
                have hsz1 : w.heap.size ≤ w1.heap.size := HC1.out.size
                clear hal1 hb1
                refine hK _ _ (fun _ => ⟨HG1.out, HT1.out, HU1.out⟩) ?_
                clear hK K
                refine ⟨?_, ?_⟩
                · refine effect_list rfl rfl (fun K hK => ?_)
                  refine wpList_append_rd rfl _ _ 33 rfl W0 TSt _ 1 16 Try.underlying33 infoSt rfl (by decide) _ _ _ rfl HK1.out (.slice (some ⟨b1, 0, none⟩) 1 1) 1 [.string (B k)] rfl (rd_val HN1.out.1) (by simp [Value.oneCell']) (by simp only [maxLen]; omega) (by omega) (Nat.le_trans hW HC1.out.size) ?_
                  intro p2 c2 w2 ho2 hg2 hv2
                  have hg2 : w1.grownBy w2 (Value.ownBlock (.slice pk es.length ck)) := ⟨hg2.os, hg2.tape, hg2.output, hg2.size, hg2.block⟩
                  have hv2 : Value.ownBlock (.slice p2 (es.length + 1) c2) = Value.ownBlock (.slice pk es.length ck) ∨ Value.ownBlock (.slice p2 (es.length + 1) c2) = some w1.heap.size := hv2
                  have HG2 := hid (HG1.out.chg (Chg.grown hg2) (own_blk_ne HK1.out HG1.out (by decide)))
                  have HT2 := hid (HT1.out.chg (Chg.grown hg2) (own_blk_ne HK1.out HT1.out (by decide)))
                  have HV2 := hid (own_chg HV1.out (Chg.grown hg2) (fun g h1 h2 => HNE.out g h2 h1))
                  have HU2 := hid (show w2.cell? ⟨bv, ov + i, none⟩ = some (.string (B u)) from (World.cell?_of_block (w := w1) (a := ⟨bv, ov + i, none⟩) (hg2.block bv (World.block_lt_of_cell? _ _ HU1.out) (fun h => by rcases HPK.out bv h.symm with h2 | h2; exact absurd h2 (HNB.out.1); exact absurd HNB.out.2.2.2 (by omega)))).trans HU1.out)
                  have HC2 := hid (HC1.out.trans (Chg.grown hg2) (fun x hx h => by rcases HPK.out x h with h2 | h2; exact .inr (.inl h2); omega))
                  have HPK2 : Hid (∀ x, Value.ownBlock (.slice p2 (es.length + 1) c2) = some x → Value.ownBlock (.slice pk0 k0 ck0) = some x ∨ w.heap.size ≤ x) := hid (fun x hx => by rcases hv2 with h | h; exact HPK.out x (h ▸ hx); rw [h] at hx; injection hx with hx; have := HC1.out.size; omega)
                  have HNE2 := hid (neB_next (w := w1) (v := (.slice pk es.length ck)) (v' := .slice p2 (es.length + 1) c2) HNE.out.symm (fun g h1 => (own_lt HV1.out g h1).2) hv2)
                  have HNE2 := hid HNE2.out.symm
                  have HK2 := hid ho2
                  have hsz2 : w.heap.size ≤ w2.heap.size := HC2.out.size
                  clear ho2 hg2 hv2
                  simp only [wpList]
                  refine hK _ _ (fun _ => ⟨HG2.out, HT2.out, HU2.out⟩) ?_
                  clear hK K
                  refine wpPlan3_list rfl rfl rfl (fun K hK => ?_)
                  refine wpList_step (fun K2 hK2 => ?_)
                  go_simp
                  refine hK2 _ _ ?_
                  clear hK2 K2
                  simp only [wpList]
                  have hal3 : Below w2.heap.size w2 (w2.alloc (.cells #[.string (B u)] TSt)) := (Below.refl _ _).alloc (Nat.le_refl _) _
                  obtain ⟨b3, hb3⟩ : ∃ b, w2.heap.size = b := ⟨_, rfl⟩
                  obtain ⟨w3, hw3⟩ : ∃ x, w2.alloc (.cells #[.string (B u)] TSt) = x := ⟨_, rfl⟩
                  have HN3 : Hid (Blk w3 b3 [.string (B u)] TSt ∧ b3 < w3.heap.size) := hid (by rw [← hw3, ← hb3]; exact ⟨heap_alloc_new _ _, by simp⟩)
                  rw [hw3] at hal3 ⊢
                  rw [hb3]
                  clear hw3
                  have HG3 := hid (HG2.out.chg (Chg.new hal3 NoFp) (fun h => h))
                  have HT3 := hid (HT2.out.chg (Chg.new hal3 NoFp) (fun h => h))
                  have HU3 := hid ((hal3.cell (p := ⟨bv, ov + i, none⟩) (World.block_lt_of_cell? _ _ HU2.out)).trans HU2.out)
                  have HK3 := hid (own_new HK2.out hal3)
                  have HV3 := hid (own_new HV2.out hal3)
                  have HC3 := hid (HC2.out.trans (Chg.new hal3 NoFp) (fun _ _ h => h.elim))
                  have F3 := hid (show Value.ownBlock (.slice p2 (es.length + 1) c2) ≠ some b3 from fun h => by have := (own_lt HK2.out _ h).2; omega)
                  have hsz3 : w.heap.size ≤ w3.heap.size := HC3.out.size
                  clear hal3 hb3
                  refine hK _ _ (fun _ => ⟨HG3.out, HT3.out, HU3.out⟩) ?_
                  clear hK K
                  refine wpPlan3_list rfl rfl rfl (fun K hK => ?_)
                  refine wpList_append_rd rfl _ _ 33 rfl W0 TSt _ 1 16 Try.underlying33 infoSt rfl (by decide) _ _ _ rfl HV3.out (.slice (some ⟨b3, 0, none⟩) 1 1) 1 [.string (B u)] rfl (rd_val HN3.out.1) (by simp [Value.oneCell']) (by simp only [maxLen]; omega) (by omega) (Nat.le_trans hW HC3.out.size) ?_
                  intro p4 c4 w4 ho4 hg4 hv4
                  have hg4 : w3.grownBy w4 (Value.ownBlock (.slice pv es.length cv)) := ⟨hg4.os, hg4.tape, hg4.output, hg4.size, hg4.block⟩
                  have hv4 : Value.ownBlock (.slice p4 (es.length + 1) c4) = Value.ownBlock (.slice pv es.length cv) ∨ Value.ownBlock (.slice p4 (es.length + 1) c4) = some w3.heap.size := hv4
                  have HG4 := hid (HG3.out.chg (Chg.grown hg4) (own_blk_ne HV3.out HG3.out (by decide)))
                  have HT4 := hid (HT3.out.chg (Chg.grown hg4) (own_blk_ne HV3.out HT3.out (by decide)))
                  have HK4 := hid (own_chg HK3.out (Chg.grown hg4) (fun g h1 h2 => HNE2.out.symm g h2 h1))
                  have HU4 := hid (show w4.cell? ⟨bv, ov + i, none⟩ = some (.string (B u)) from (World.cell?_of_block (w := w3) (a := ⟨bv, ov + i, none⟩) (hg4.block bv (World.block_lt_of_cell? _ _ HU3.out) (fun h => by rcases HPV.out bv h.symm with h2 | h2; exact absurd h2 (HNB.out.2.1); exact absurd HNB.out.2.2.2 (by omega)))).trans HU3.out)
                  have HC4 := hid (HC3.out.trans (Chg.grown hg4) (fun x hx h => by rcases HPV.out x h with h2 | h2; exact .inr (.inr h2); omega))
                  have HPV4 : Hid (∀ x, Value.ownBlock (.slice p4 (es.length + 1) c4) = some x → Value.ownBlock (.slice pv0 k0 cv0) = some x ∨ w.heap.size ≤ x) := hid (fun x hx => by rcases hv4 with h | h; exact HPV.out x (h ▸ hx); rw [h] at hx; injection hx with hx; have := HC3.out.size; omega)
                  have HNE4 := hid (neB_next (w := w3) (v := (.slice pv es.length cv)) (v' := .slice p4 (es.length + 1) c4) HNE2.out.symm.symm (fun g h1 => (own_lt HK3.out g h1).2) hv4)
                  have HV4 := hid ho4
                  have hsz4 : w.heap.size ≤ w4.heap.size := HC4.out.size
                  clear ho4 hg4 hv4
                  simp only [wpList]
                  refine hK _ _ (fun _ => ⟨HG4.out, HT4.out, HU4.out⟩) ?_
                  clear hK K
                  (apply wpPlan3_val; (case ho => rfl); (case hst => rfl); (case hw => rfl); (case hv => intro w' hS; go_simp; first | done | rfl); intro K hK; go_simp; refine hK _ ?_; clear hK K)
                  (apply wpPlan3_val; (case ho => rfl); (case hst => rfl); (case hw => rfl); (case hv => intro w' hS; go_simp; first | done | rfl); intro K hK; go_simp; refine hK _ ?_; clear hK K)
                  refine wpPlan3_list rfl rfl rfl (fun K hK => ?_)
                  obtain ⟨y05, y15, y25, y35, y45, y55, y65, y75, z65, z75⟩ := wk_cells HG4.out
                  refine wpList_step (fun K2 hK2 => ?_)
                  go_simp
                  refine hK2 _ _ ?_
                  clear hK2 K2
                  simp only [wpList]
                  refine hK _ _ (fun h => by cases h) ?_
                  clear hK K
                  obtain ⟨w5, hw5⟩ : ∃ x, w4.setCell ⟨g, 6, none⟩ (.slice p2 (es.length + 1) c2) = x := ⟨_, rfl⟩
                  have HG5 : Hid (Blk w5 g (wkC p fr to most mp pp np cp p2 (es.length + 1) c2 pv es.length cv) TW) := hid (by rw [← hw5]; exact HG4.out.set 6 (.slice p2 (es.length + 1) c2))
                  rw [hw5]
                  have hc5 : Chg (fun k => k = g) w4 w5 := by rw [← hw5]; exact Chg.setCell (fp := fun k => k = g) _ rfl _
                  have HT5 := hid (HT4.out.chg hc5 (fun h => absurd h HNB.out.2.2.1))
                  have HK5 := hid (own_chg HK4.out hc5 (fun x hx h => by have := own_blk_ne HK4.out HG4.out (by decide); rw [h] at hx; exact this hx))
                  have HV5 := hid (own_chg HV4.out hc5 (fun x hx h => by have := own_blk_ne HV4.out HG4.out (by decide); rw [h] at hx; exact this hx))
                  have HC5 := hid (HC4.out.trans hc5 (fun x hx h => .inl h))
                  clear hw5 hc5 y05 y15 y25 y35 y45 y55 y65 y75 z65 z75
                  (apply wpPlan3_val; (case ho => rfl); (case hst => rfl); (case hw => rfl); (case hv => intro w' hS; go_simp; first | done | rfl); intro K hK; go_simp; refine hK _ ?_; clear hK K)
                  (apply wpPlan3_val; (case ho => rfl); (case hst => rfl); (case hw => rfl); (case hv => intro w' hS; go_simp; first | done | rfl); intro K hK; go_simp; refine hK _ ?_; clear hK K)
                  refine wpPlan3_list rfl rfl rfl (fun K hK => ?_)
                  obtain ⟨y06, y16, y26, y36, y46, y56, y66, y76, z66, z76⟩ := wk_cells HG5.out
                  refine wpList_step (fun K2 hK2 => ?_)
                  go_simp
                  refine hK2 _ _ ?_
                  clear hK2 K2
                  simp only [wpList]
                  refine hK _ _ (fun h => by cases h) ?_
                  clear hK K
                  obtain ⟨w6, hw6⟩ : ∃ x, w5.setCell ⟨g, 7, none⟩ (.slice p4 (es.length + 1) c4) = x := ⟨_, rfl⟩
                  have HG6 : Hid (Blk w6 g (wkC p fr to most mp pp np cp p2 (es.length + 1) c2 p4 (es.length + 1) c4) TW) := hid (by rw [← hw6]; exact HG5.out.set 7 (.slice p4 (es.length + 1) c4))
                  rw [hw6]
                  have hc6 : Chg (fun k => k = g) w5 w6 := by rw [← hw6]; exact Chg.setCell (fp := fun k => k = g) _ rfl _
                  have HT6 := hid (HT5.out.chg hc6 (fun h => absurd h HNB.out.2.2.1))
                  have HK6 := hid (own_chg HK5.out hc6 (fun x hx h => by have := own_blk_ne HK5.out HG5.out (by decide); rw [h] at hx; exact this hx))
                  have HV6 := hid (own_chg HV5.out hc6 (fun x hx h => by have := own_blk_ne HV5.out HG5.out (by decide); rw [h] at hx; exact this hx))
                  have HC6 := hid (HC5.out.trans hc6 (fun x hx h => .inl h))
                  clear hw6 hc6 y06 y16 y26 y36 y46 y56 y66 y76 z66 z76
                  refine wpPlan3_nil ?_
                  simp only [Qn]
                  have HKK := hid (show w6.ownsRow W0 TSt 1 (.slice p2 (es.length + 1) c2) (es.length + 1) (tv ((es ++ [(k, u)]).map (·.1))) by rw [List.map_append, tv_app]; exact HK6.out)
                  have HVV := hid (show w6.ownsRow W0 TSt 1 (.slice p4 (es.length + 1) c4) (es.length + 1) (tv ((es ++ [(k, u)]).map (·.2))) by rw [List.map_append, tv_app]; exact HV6.out)
                  go_wp2_with fail
                  go_roundw
                  case rel => exact ⟨i + 1, es ++ [(k, u)], p2, c2, p4, c4, by first | rfl | (congr 1; omega) | (congr 1), hlt, HC6.out.size, by rw [List.length_append]; exact HLE.out, by rw [List.length_append]; show es.length + 1 ≤ _; omega, hid (by rw [HTK.out, rngM_app, HRG.out, ← List.append_assoc, ← HES.out]), by rw [List.length_append]; exact HG6, by rw [List.length_append]; exact HKK, by rw [List.length_append]; exact HVV, by rw [List.length_append]; exact HNE4, HT6, by rw [List.length_append]; exact HPK2, by rw [List.length_append]; exact HPV4, HC6⟩
                  case measure => simp [intOf]; omega
                · refine effect_list rfl rfl (fun K hK => ?_)
                  refine wpList_step (fun K2 hK2 => ?_)
                  go_simp
                  refine hK2 _ _ ?_
                  clear hK2 K2
                  simp only [wpList]
                  have hal7 : Below w1.heap.size w1 (w1.alloc (.cells #[.string (B u)] TSt)) := (Below.refl _ _).alloc (Nat.le_refl _) _
                  obtain ⟨b7, hb7⟩ : ∃ b, w1.heap.size = b := ⟨_, rfl⟩
                  obtain ⟨w7, hw7⟩ : ∃ x, w1.alloc (.cells #[.string (B u)] TSt) = x := ⟨_, rfl⟩
                  have HN7 : Hid (Blk w7 b7 [.string (B u)] TSt ∧ b7 < w7.heap.size) := hid (by rw [← hw7, ← hb7]; exact ⟨heap_alloc_new _ _, by simp⟩)
                  rw [hw7] at hal7 ⊢
                  rw [hb7]
                  clear hw7
                  have HG7 := hid (HG1.out.chg (Chg.new hal7 NoFp) (fun h => h))
                  have HT7 := hid (HT1.out.chg (Chg.new hal7 NoFp) (fun h => h))
                  have HU7 := hid ((hal7.cell (p := ⟨bv, ov + i, none⟩) (World.block_lt_of_cell? _ _ HU1.out)).trans HU1.out)
                  have HK7 := hid (own_new HK1.out hal7)
                  have HV7 := hid (own_new HV1.out hal7)
                  have HC7 := hid (HC1.out.trans (Chg.new hal7 NoFp) (fun _ _ h => h.elim))
                  have HA7 := hid (And.intro (HN1.out.1.chg (Chg.new hal7 NoFp) (fun h => h)) (Nat.lt_of_lt_of_le HN1.out.2 hal7.size))
                  have F7 := hid (show Value.ownBlock (.slice pk es.length ck) ≠ some b7 from fun h => by have := (own_lt HK1.out _ h).2; omega)
                  have hsz7 : w.heap.size ≤ w7.heap.size := HC7.out.size
                  clear hal7 hb7
                  refine hK _ _ (fun _ => ⟨HG7.out, HT7.out, HU7.out⟩) ?_
                  clear hK K
                  refine wpPlan3_list rfl rfl rfl (fun K hK => ?_)
                  refine wpList_append_rd rfl _ _ 33 rfl W0 TSt _ 1 16 Try.underlying33 infoSt rfl (by decide) _ _ _ rfl HK7.out (.slice (some ⟨b1, 0, none⟩) 1 1) 1 [.string (B k)] rfl (rd_val HA7.out.1) (by simp [Value.oneCell']) (by simp only [maxLen]; omega) (by omega) (Nat.le_trans hW HC7.out.size) ?_
                  intro p8 c8 w8 ho8 hg8 hv8
                  have hg8 : w7.grownBy w8 (Value.ownBlock (.slice pk es.length ck)) := ⟨hg8.os, hg8.tape, hg8.output, hg8.size, hg8.block⟩
                  have hv8 : Value.ownBlock (.slice p8 (es.length + 1) c8) = Value.ownBlock (.slice pk es.length ck) ∨ Value.ownBlock (.slice p8 (es.length + 1) c8) = some w7.heap.size := hv8
                  have HG8 := hid (HG7.out.chg (Chg.grown hg8) (own_blk_ne HK7.out HG7.out (by decide)))
                  have HT8 := hid (HT7.out.chg (Chg.grown hg8) (own_blk_ne HK7.out HT7.out (by decide)))
                  have HV8 := hid (own_chg HV7.out (Chg.grown hg8) (fun g h1 h2 => HNE.out g h2 h1))
                  have HU8 := hid (show w8.cell? ⟨bv, ov + i, none⟩ = some (.string (B u)) from (World.cell?_of_block (w := w7) (a := ⟨bv, ov + i, none⟩) (hg8.block bv (World.block_lt_of_cell? _ _ HU7.out) (fun h => by rcases HPK.out bv h.symm with h2 | h2; exact absurd h2 (HNB.out.1); exact absurd HNB.out.2.2.2 (by omega)))).trans HU7.out)
                  have HC8 := hid (HC7.out.trans (Chg.grown hg8) (fun x hx h => by rcases HPK.out x h with h2 | h2; exact .inr (.inl h2); omega))
                  have HPK8 : Hid (∀ x, Value.ownBlock (.slice p8 (es.length + 1) c8) = some x → Value.ownBlock (.slice pk0 k0 ck0) = some x ∨ w.heap.size ≤ x) := hid (fun x hx => by rcases hv8 with h | h; exact HPK.out x (h ▸ hx); rw [h] at hx; injection hx with hx; have := HC7.out.size; omega)
                  have HNE8 := hid (neB_next (w := w7) (v := (.slice pk es.length ck)) (v' := .slice p8 (es.length + 1) c8) HNE.out.symm (fun g h1 => (own_lt HV7.out g h1).2) hv8)
                  have HNE8 := hid HNE8.out.symm
                  have HB8 := hid (And.intro (HN7.out.1.chg (Chg.grown hg8) (fun h => F7.out h)) (Nat.lt_of_lt_of_le HN7.out.2 hg8.size))
                  have HK8 := hid ho8
                  have hsz8 : w.heap.size ≤ w8.heap.size := HC8.out.size
                  clear ho8 hg8 hv8
                  simp only [wpList]
                  refine hK _ _ (fun _ => ⟨HG8.out, HT8.out, HU8.out⟩) ?_
                  clear hK K
                  refine wpPlan3_list rfl rfl rfl (fun K hK => ?_)
                  refine wpList_append_rd rfl _ _ 33 rfl W0 TSt _ 1 16 Try.underlying33 infoSt rfl (by decide) _ _ _ rfl HV8.out (.slice (some ⟨b7, 0, none⟩) 1 1) 1 [.string (B u)] rfl (rd_val HB8.out.1) (by simp [Value.oneCell']) (by simp only [maxLen]; omega) (by omega) (Nat.le_trans hW HC8.out.size) ?_
                  intro p9 c9 w9 ho9 hg9 hv9
                  have hg9 : w8.grownBy w9 (Value.ownBlock (.slice pv es.length cv)) := ⟨hg9.os, hg9.tape, hg9.output, hg9.size, hg9.block⟩
                  have hv9 : Value.ownBlock (.slice p9 (es.length + 1) c9) = Value.ownBlock (.slice pv es.length cv) ∨ Value.ownBlock (.slice p9 (es.length + 1) c9) = some w8.heap.size := hv9
                  have HG9 := hid (HG8.out.chg (Chg.grown hg9) (own_blk_ne HV8.out HG8.out (by decide)))
                  have HT9 := hid (HT8.out.chg (Chg.grown hg9) (own_blk_ne HV8.out HT8.out (by decide)))
                  have HK9 := hid (own_chg HK8.out (Chg.grown hg9) (fun g h1 h2 => HNE8.out.symm g h2 h1))
                  have HU9 := hid (show w9.cell? ⟨bv, ov + i, none⟩ = some (.string (B u)) from (World.cell?_of_block (w := w8) (a := ⟨bv, ov + i, none⟩) (hg9.block bv (World.block_lt_of_cell? _ _ HU8.out) (fun h => by rcases HPV.out bv h.symm with h2 | h2; exact absurd h2 (HNB.out.2.1); exact absurd HNB.out.2.2.2 (by omega)))).trans HU8.out)
                  have HC9 := hid (HC8.out.trans (Chg.grown hg9) (fun x hx h => by rcases HPV.out x h with h2 | h2; exact .inr (.inr h2); omega))
                  have HPV9 : Hid (∀ x, Value.ownBlock (.slice p9 (es.length + 1) c9) = some x → Value.ownBlock (.slice pv0 k0 cv0) = some x ∨ w.heap.size ≤ x) := hid (fun x hx => by rcases hv9 with h | h; exact HPV.out x (h ▸ hx); rw [h] at hx; injection hx with hx; have := HC8.out.size; omega)
                  have HNE9 := hid (neB_next (w := w8) (v := (.slice pv es.length cv)) (v' := .slice p9 (es.length + 1) c9) HNE8.out.symm.symm (fun g h1 => (own_lt HK8.out g h1).2) hv9)
                  have HV9 := hid ho9
                  have hsz9 : w.heap.size ≤ w9.heap.size := HC9.out.size
                  clear ho9 hg9 hv9
                  simp only [wpList]
                  refine hK _ _ (fun _ => ⟨HG9.out, HT9.out, HU9.out⟩) ?_
                  clear hK K
                  (apply wpPlan3_val; (case ho => rfl); (case hst => rfl); (case hw => rfl); (case hv => intro w' hS; go_simp; first | done | rfl); intro K hK; go_simp; refine hK _ ?_; clear hK K)
                  (apply wpPlan3_val; (case ho => rfl); (case hst => rfl); (case hw => rfl); (case hv => intro w' hS; go_simp; first | done | rfl); intro K hK; go_simp; refine hK _ ?_; clear hK K)
                  refine wpPlan3_list rfl rfl rfl (fun K hK => ?_)
                  obtain ⟨y010, y110, y210, y310, y410, y510, y610, y710, z610, z710⟩ := wk_cells HG9.out
                  refine wpList_step (fun K2 hK2 => ?_)
                  go_simp
                  refine hK2 _ _ ?_
                  clear hK2 K2
                  simp only [wpList]
                  refine hK _ _ (fun h => by cases h) ?_
                  clear hK K
                  obtain ⟨w10, hw10⟩ : ∃ x, w9.setCell ⟨g, 6, none⟩ (.slice p8 (es.length + 1) c8) = x := ⟨_, rfl⟩
                  have HG10 : Hid (Blk w10 g (wkC p fr to most mp pp np cp p8 (es.length + 1) c8 pv es.length cv) TW) := hid (by rw [← hw10]; exact HG9.out.set 6 (.slice p8 (es.length + 1) c8))
                  rw [hw10]
                  have hc10 : Chg (fun k => k = g) w9 w10 := by rw [← hw10]; exact Chg.setCell (fp := fun k => k = g) _ rfl _
                  have HT10 := hid (HT9.out.chg hc10 (fun h => absurd h HNB.out.2.2.1))
                  have HK10 := hid (own_chg HK9.out hc10 (fun x hx h => by have := own_blk_ne HK9.out HG9.out (by decide); rw [h] at hx; exact this hx))
                  have HV10 := hid (own_chg HV9.out hc10 (fun x hx h => by have := own_blk_ne HV9.out HG9.out (by decide); rw [h] at hx; exact this hx))
                  have HC10 := hid (HC9.out.trans hc10 (fun x hx h => .inl h))
                  clear hw10 hc10 y010 y110 y210 y310 y410 y510 y610 y710 z610 z710
                  (apply wpPlan3_val; (case ho => rfl); (case hst => rfl); (case hw => rfl); (case hv => intro w' hS; go_simp; first | done | rfl); intro K hK; go_simp; refine hK _ ?_; clear hK K)
                  (apply wpPlan3_val; (case ho => rfl); (case hst => rfl); (case hw => rfl); (case hv => intro w' hS; go_simp; first | done | rfl); intro K hK; go_simp; refine hK _ ?_; clear hK K)
                  refine wpPlan3_list rfl rfl rfl (fun K hK => ?_)
                  obtain ⟨y011, y111, y211, y311, y411, y511, y611, y711, z611, z711⟩ := wk_cells HG10.out
                  refine wpList_step (fun K2 hK2 => ?_)
                  go_simp
                  refine hK2 _ _ ?_
                  clear hK2 K2
                  simp only [wpList]
                  refine hK _ _ (fun h => by cases h) ?_
                  clear hK K
                  obtain ⟨w11, hw11⟩ : ∃ x, w10.setCell ⟨g, 7, none⟩ (.slice p9 (es.length + 1) c9) = x := ⟨_, rfl⟩
                  have HG11 : Hid (Blk w11 g (wkC p fr to most mp pp np cp p8 (es.length + 1) c8 p9 (es.length + 1) c9) TW) := hid (by rw [← hw11]; exact HG10.out.set 7 (.slice p9 (es.length + 1) c9))
                  rw [hw11]
                  have hc11 : Chg (fun k => k = g) w10 w11 := by rw [← hw11]; exact Chg.setCell (fp := fun k => k = g) _ rfl _
                  have HT11 := hid (HT10.out.chg hc11 (fun h => absurd h HNB.out.2.2.1))
                  have HK11 := hid (own_chg HK10.out hc11 (fun x hx h => by have := own_blk_ne HK10.out HG10.out (by decide); rw [h] at hx; exact this hx))
                  have HV11 := hid (own_chg HV10.out hc11 (fun x hx h => by have := own_blk_ne HV10.out HG10.out (by decide); rw [h] at hx; exact this hx))
                  have HC11 := hid (HC10.out.trans hc11 (fun x hx h => .inl h))
                  clear hw11 hc11 y011 y111 y211 y311 y411 y511 y611 y711 z611 z711
                  refine wpPlan3_nil ?_
                  simp only [Qn]
                  have HKK := hid (show w11.ownsRow W0 TSt 1 (.slice p8 (es.length + 1) c8) (es.length + 1) (tv ((es ++ [(k, u)]).map (·.1))) by rw [List.map_append, tv_app]; exact HK11.out)
                  have HVV := hid (show w11.ownsRow W0 TSt 1 (.slice p9 (es.length + 1) c9) (es.length + 1) (tv ((es ++ [(k, u)]).map (·.2))) by rw [List.map_append, tv_app]; exact HV11.out)
                  go_wp2_with fail
                  go_roundw
                  case rel => exact ⟨i + 1, es ++ [(k, u)], p8, c8, p9, c9, by first | rfl | (congr 1; omega) | (congr 1), hlt, HC11.out.size, by rw [List.length_append]; exact HLE.out, by rw [List.length_append]; show es.length + 1 ≤ _; omega, hid (by rw [HTK.out, rngM_app, HRG.out, ← List.append_assoc, ← HES.out]), by rw [List.length_append]; exact HG11, by rw [List.length_append]; exact HKK, by rw [List.length_append]; exact HVV, by rw [List.length_append]; exact HNE9, HT11, by rw [List.length_append]; exact HPK8, by rw [List.length_append]; exact HPV9, HC11⟩
                  case measure => simp [intOf]; omega
              · refine effect_list rfl rfl (fun K hK => ?_)
                refine wpList_step (fun K2 hK2 => ?_)
                go_simp
                refine hK2 _ _ ?_
                clear hK2 K2
                simp only [wpList]
                have hal12 : Below wz.heap.size wz (wz.alloc (.cells #[.string (B u)] TSt)) := (Below.refl _ _).alloc (Nat.le_refl _) _
                obtain ⟨b12, hb12⟩ : ∃ b, wz.heap.size = b := ⟨_, rfl⟩
                obtain ⟨w12, hw12⟩ : ∃ x, wz.alloc (.cells #[.string (B u)] TSt) = x := ⟨_, rfl⟩
                have HN12 : Hid (Blk w12 b12 [.string (B u)] TSt ∧ b12 < w12.heap.size) := hid (by rw [← hw12, ← hb12]; exact ⟨heap_alloc_new _ _, by simp⟩)
                rw [hw12] at hal12 ⊢
                rw [hb12]
                clear hw12
                have HG12 := hid (HGz.out.chg (Chg.new hal12 NoFp) (fun h => h))
                have HT12 := hid (HTz.out.chg (Chg.new hal12 NoFp) (fun h => h))
                have HU12 := hid ((hal12.cell (p := ⟨bv, ov + i, none⟩) (World.block_lt_of_cell? _ _ HUz.out)).trans HUz.out)
                have HK12 := hid (own_new HKz.out hal12)
                have HV12 := hid (own_new HVz.out hal12)
                have HC12 := hid (HCz.out.trans (Chg.new hal12 NoFp) (fun _ _ h => h.elim))
                have F12 := hid (show Value.ownBlock (.slice pk es.length ck) ≠ some b12 from fun h => by have := (own_lt HKz.out _ h).2; omega)
                have hsz12 : w.heap.size ≤ w12.heap.size := HC12.out.size
                clear hal12 hb12
                refine hK _ _ (fun _ => ⟨HG12.out, HT12.out, HU12.out⟩) ?_
                clear hK K
                refine wpPlan3_list rfl rfl rfl (fun K hK => ?_)
                refine wpList_step (fun K2 hK2 => ?_)
                go_simp
                refine hK2 _ _ ?_
                clear hK2 K2
                simp only [wpList]
                have hal13 : Below w12.heap.size w12 (w12.alloc (.cells #[.string (B k)] TSt)) := (Below.refl _ _).alloc (Nat.le_refl _) _
                obtain ⟨b13, hb13⟩ : ∃ b, w12.heap.size = b := ⟨_, rfl⟩
                obtain ⟨w13, hw13⟩ : ∃ x, w12.alloc (.cells #[.string (B k)] TSt) = x := ⟨_, rfl⟩
                have HN13 : Hid (Blk w13 b13 [.string (B k)] TSt ∧ b13 < w13.heap.size) := hid (by rw [← hw13, ← hb13]; exact ⟨heap_alloc_new _ _, by simp⟩)
                rw [hw13] at hal13 ⊢
                rw [hb13]
                clear hw13
                have HG13 := hid (HG12.out.chg (Chg.new hal13 NoFp) (fun h => h))
                have HT13 := hid (HT12.out.chg (Chg.new hal13 NoFp) (fun h => h))
                have HU13 := hid ((hal13.cell (p := ⟨bv, ov + i, none⟩) (World.block_lt_of_cell? _ _ HU12.out)).trans HU12.out)
                have HK13 := hid (own_new HK12.out hal13)
                have HV13 := hid (own_new HV12.out hal13)
                have HC13 := hid (HC12.out.trans (Chg.new hal13 NoFp) (fun _ _ h => h.elim))
                have HB13 := hid (And.intro (HN12.out.1.chg (Chg.new hal13 NoFp) (fun h => h)) (Nat.lt_of_lt_of_le HN12.out.2 hal13.size))
                have F13 := hid (show Value.ownBlock (.slice pv es.length cv) ≠ some b13 from fun h => by have := (own_lt HV12.out _ h).2; omega)
                have hsz13 : w.heap.size ≤ w13.heap.size := HC13.out.size
                clear hal13 hb13
                refine hK _ _ (fun _ => ⟨HG13.out, HT13.out, HU13.out⟩) ?_
                clear hK K
                refine wpPlan3_list rfl rfl rfl (fun K hK => ?_)
                refine wpList_append_rd rfl _ _ 33 rfl W0 TSt _ 1 16 Try.underlying33 infoSt rfl (by decide) _ _ _ rfl HK13.out (.slice (some ⟨b13, 0, none⟩) 1 1) 1 [.string (B k)] rfl (rd_val HN13.out.1) (by simp [Value.oneCell']) (by simp only [maxLen]; omega) (by omega) (Nat.le_trans hW HC13.out.size) ?_
                intro p14 c14 w14 ho14 hg14 hv14
                have hg14 : w13.grownBy w14 (Value.ownBlock (.slice pk es.length ck)) := ⟨hg14.os, hg14.tape, hg14.output, hg14.size, hg14.block⟩
                have hv14 : Value.ownBlock (.slice p14 (es.length + 1) c14) = Value.ownBlock (.slice pk es.length ck) ∨ Value.ownBlock (.slice p14 (es.length + 1) c14) = some w13.heap.size := hv14
                have HG14 := hid (HG13.out.chg (Chg.grown hg14) (own_blk_ne HK13.out HG13.out (by decide)))
                have HT14 := hid (HT13.out.chg (Chg.grown hg14) (own_blk_ne HK13.out HT13.out (by decide)))
                have HV14 := hid (own_chg HV13.out (Chg.grown hg14) (fun g h1 h2 => HNE.out g h2 h1))
                have HU14 := hid (show w14.cell? ⟨bv, ov + i, none⟩ = some (.string (B u)) from (World.cell?_of_block (w := w13) (a := ⟨bv, ov + i, none⟩) (hg14.block bv (World.block_lt_of_cell? _ _ HU13.out) (fun h => by rcases HPK.out bv h.symm with h2 | h2; exact absurd h2 (HNB.out.1); exact absurd HNB.out.2.2.2 (by omega)))).trans HU13.out)
                have HC14 := hid (HC13.out.trans (Chg.grown hg14) (fun x hx h => by rcases HPK.out x h with h2 | h2; exact .inr (.inl h2); omega))
                have HPK14 : Hid (∀ x, Value.ownBlock (.slice p14 (es.length + 1) c14) = some x → Value.ownBlock (.slice pk0 k0 ck0) = some x ∨ w.heap.size ≤ x) := hid (fun x hx => by rcases hv14 with h | h; exact HPK.out x (h ▸ hx); rw [h] at hx; injection hx with hx; have := HC13.out.size; omega)
                have HNE14 := hid (neB_next (w := w13) (v := (.slice pk es.length ck)) (v' := .slice p14 (es.length + 1) c14) HNE.out.symm (fun g h1 => (own_lt HV13.out g h1).2) hv14)
                have HNE14 := hid HNE14.out.symm
                have HB14 := hid (And.intro (HB13.out.1.chg (Chg.grown hg14) (fun h => F12.out h)) (Nat.lt_of_lt_of_le HB13.out.2 hg14.size))
                have HK14 := hid ho14
                have hsz14 : w.heap.size ≤ w14.heap.size := HC14.out.size
                clear ho14 hg14 hv14
                simp only [wpList]
                refine hK _ _ (fun _ => ⟨HG14.out, HT14.out, HU14.out⟩) ?_
                clear hK K
                refine wpPlan3_list rfl rfl rfl (fun K hK => ?_)
                refine wpList_append_rd rfl _ _ 33 rfl W0 TSt _ 1 16 Try.underlying33 infoSt rfl (by decide) _ _ _ rfl HV14.out (.slice (some ⟨b12, 0, none⟩) 1 1) 1 [.string (B u)] rfl (rd_val HB14.out.1) (by simp [Value.oneCell']) (by simp only [maxLen]; omega) (by omega) (Nat.le_trans hW HC14.out.size) ?_
                intro p15 c15 w15 ho15 hg15 hv15
                have hg15 : w14.grownBy w15 (Value.ownBlock (.slice pv es.length cv)) := ⟨hg15.os, hg15.tape, hg15.output, hg15.size, hg15.block⟩
                have hv15 : Value.ownBlock (.slice p15 (es.length + 1) c15) = Value.ownBlock (.slice pv es.length cv) ∨ Value.ownBlock (.slice p15 (es.length + 1) c15) = some w14.heap.size := hv15
                have HG15 := hid (HG14.out.chg (Chg.grown hg15) (own_blk_ne HV14.out HG14.out (by decide)))
                have HT15 := hid (HT14.out.chg (Chg.grown hg15) (own_blk_ne HV14.out HT14.out (by decide)))
                have HK15 := hid (own_chg HK14.out (Chg.grown hg15) (fun g h1 h2 => HNE14.out.symm g h2 h1))
                have HU15 := hid (show w15.cell? ⟨bv, ov + i, none⟩ = some (.string (B u)) from (World.cell?_of_block (w := w14) (a := ⟨bv, ov + i, none⟩) (hg15.block bv (World.block_lt_of_cell? _ _ HU14.out) (fun h => by rcases HPV.out bv h.symm with h2 | h2; exact absurd h2 (HNB.out.2.1); exact absurd HNB.out.2.2.2 (by omega)))).trans HU14.out)
                have HC15 := hid (HC14.out.trans (Chg.grown hg15) (fun x hx h => by rcases HPV.out x h with h2 | h2; exact .inr (.inr h2); omega))
                have HPV15 : Hid (∀ x, Value.ownBlock (.slice p15 (es.length + 1) c15) = some x → Value.ownBlock (.slice pv0 k0 cv0) = some x ∨ w.heap.size ≤ x) := hid (fun x hx => by rcases hv15 with h | h; exact HPV.out x (h ▸ hx); rw [h] at hx; injection hx with hx; have := HC14.out.size; omega)
                have HNE15 := hid (neB_next (w := w14) (v := (.slice pv es.length cv)) (v' := .slice p15 (es.length + 1) c15) HNE14.out.symm.symm (fun g h1 => (own_lt HK14.out g h1).2) hv15)
                have HV15 := hid ho15
                have hsz15 : w.heap.size ≤ w15.heap.size := HC15.out.size
                clear ho15 hg15 hv15
                simp only [wpList]
                refine hK _ _ (fun _ => ⟨HG15.out, HT15.out, HU15.out⟩) ?_
                clear hK K
                (apply wpPlan3_val; (case ho => rfl); (case hst => rfl); (case hw => rfl); (case hv => intro w' hS; go_simp; first | done | rfl); intro K hK; go_simp; refine hK _ ?_; clear hK K)
                (apply wpPlan3_val; (case ho => rfl); (case hst => rfl); (case hw => rfl); (case hv => intro w' hS; go_simp; first | done | rfl); intro K hK; go_simp; refine hK _ ?_; clear hK K)
                refine wpPlan3_list rfl rfl rfl (fun K hK => ?_)
                obtain ⟨y016, y116, y216, y316, y416, y516, y616, y716, z616, z716⟩ := wk_cells HG15.out
                refine wpList_step (fun K2 hK2 => ?_)
                go_simp
                refine hK2 _ _ ?_
                clear hK2 K2
                simp only [wpList]
                refine hK _ _ (fun h => by cases h) ?_
                clear hK K
                obtain ⟨w16, hw16⟩ : ∃ x, w15.setCell ⟨g, 6, none⟩ (.slice p14 (es.length + 1) c14) = x := ⟨_, rfl⟩
                have HG16 : Hid (Blk w16 g (wkC p fr to most mp pp np cp p14 (es.length + 1) c14 pv es.length cv) TW) := hid (by rw [← hw16]; exact HG15.out.set 6 (.slice p14 (es.length + 1) c14))
                rw [hw16]
                have hc16 : Chg (fun k => k = g) w15 w16 := by rw [← hw16]; exact Chg.setCell (fp := fun k => k = g) _ rfl _
                have HT16 := hid (HT15.out.chg hc16 (fun h => absurd h HNB.out.2.2.1))
                have HK16 := hid (own_chg HK15.out hc16 (fun x hx h => by have := own_blk_ne HK15.out HG15.out (by decide); rw [h] at hx; exact this hx))
                have HV16 := hid (own_chg HV15.out hc16 (fun x hx h => by have := own_blk_ne HV15.out HG15.out (by decide); rw [h] at hx; exact this hx))
                have HC16 := hid (HC15.out.trans hc16 (fun x hx h => .inl h))
                clear hw16 hc16 y016 y116 y216 y316 y416 y516 y616 y716 z616 z716
                (apply wpPlan3_val; (case ho => rfl); (case hst => rfl); (case hw => rfl); (case hv => intro w' hS; go_simp; first | done | rfl); intro K hK; go_simp; refine hK _ ?_; clear hK K)
                (apply wpPlan3_val; (case ho => rfl); (case hst => rfl); (case hw => rfl); (case hv => intro w' hS; go_simp; first | done | rfl); intro K hK; go_simp; refine hK _ ?_; clear hK K)
                refine wpPlan3_list rfl rfl rfl (fun K hK => ?_)
                obtain ⟨y017, y117, y217, y317, y417, y517, y617, y717, z617, z717⟩ := wk_cells HG16.out
                refine wpList_step (fun K2 hK2 => ?_)
                go_simp
                refine hK2 _ _ ?_
                clear hK2 K2
                simp only [wpList]
                refine hK _ _ (fun h => by cases h) ?_
                clear hK K
                obtain ⟨w17, hw17⟩ : ∃ x, w16.setCell ⟨g, 7, none⟩ (.slice p15 (es.length + 1) c15) = x := ⟨_, rfl⟩
                have HG17 : Hid (Blk w17 g (wkC p fr to most mp pp np cp p14 (es.length + 1) c14 p15 (es.length + 1) c15) TW) := hid (by rw [← hw17]; exact HG16.out.set 7 (.slice p15 (es.length + 1) c15))
                rw [hw17]
                have hc17 : Chg (fun k => k = g) w16 w17 := by rw [← hw17]; exact Chg.setCell (fp := fun k => k = g) _ rfl _
                have HT17 := hid (HT16.out.chg hc17 (fun h => absurd h HNB.out.2.2.1))
                have HK17 := hid (own_chg HK16.out hc17 (fun x hx h => by have := own_blk_ne HK16.out HG16.out (by decide); rw [h] at hx; exact this hx))
                have HV17 := hid (own_chg HV16.out hc17 (fun x hx h => by have := own_blk_ne HV16.out HG16.out (by decide); rw [h] at hx; exact this hx))
                have HC17 := hid (HC16.out.trans hc17 (fun x hx h => .inl h))
                clear hw17 hc17 y017 y117 y217 y317 y417 y517 y617 y717 z617 z717
                refine wpPlan3_nil ?_
                simp only [Qn]
                have HKK := hid (show w17.ownsRow W0 TSt 1 (.slice p14 (es.length + 1) c14) (es.length + 1) (tv ((es ++ [(k, u)]).map (·.1))) by rw [List.map_append, tv_app]; exact HK17.out)
                have HVV := hid (show w17.ownsRow W0 TSt 1 (.slice p15 (es.length + 1) c15) (es.length + 1) (tv ((es ++ [(k, u)]).map (·.2))) by rw [List.map_append, tv_app]; exact HV17.out)
                go_wp2_with fail
                go_roundw
                case rel => exact ⟨i + 1, es ++ [(k, u)], p14, c14, p15, c15, by first | rfl | (congr 1; omega) | (congr 1), hlt, HC17.out.size, by rw [List.length_append]; exact HLE.out, by rw [List.length_append]; show es.length + 1 ≤ _; omega, hid (by rw [HTK.out, rngM_app, HRG.out, ← List.append_assoc, ← HES.out]), by rw [List.length_append]; exact HG17, by rw [List.length_append]; exact HKK, by rw [List.length_append]; exact HVV, by rw [List.length_append]; exact HNE15, HT17, by rw [List.length_append]; exact HPK14, by rw [List.length_append]; exact HPV15, HC17⟩
                case measure => simp [intOf]; omega
          · rw [if_pos (by rw [hto]; simp)] at HRG1
            have HRG := hid HRG1
            have HLE := hid hm
            clear HRG1
            go_wp2_with fail
            go_quiet (fail)
            go_wp2_with fail
            obtain ⟨wq, hwq⟩ : ∃ x, wr.drewN nq = x := ⟨_, rfl⟩
            have HGq := hid (show Blk wq g (wkC p fr to most mp pp np cp pk es.length ck pv es.length cv) TW by rw [← hwq]; exact HG.out)
            have HTq := hid (show Blk wq t3 [.bool true, .slice (some ⟨bk, ok, none⟩) nl dk, .slice (some ⟨bv, ov, none⟩) nl dv, .slice qd md dd] TN by rw [← hwq]; exact HT.out)
            have HUq := hid (show wq.cell? ⟨bv, ov + i, none⟩ = some (.string (B u)) by rw [← hwq]; exact HU.out)
            have HKq := hid (show wq.ownsRow W0 TSt 1 (.slice pk es.length ck) es.length (tv (es.map (·.1))) by rw [← hwq]; exact HK.out)
            have HVq := hid (show wq.ownsRow W0 TSt 1 (.slice pv es.length cv) es.length (tv (es.map (·.2))) by rw [← hwq]; exact HV.out)
            have HCq := hid (show Chg (fun x => x = g ∨ Value.ownBlock (.slice pk0 k0 ck0) = some x ∨ Value.ownBlock (.slice pv0 k0 cv0) = some x) w wq by rw [← hwq]; exact HC.out.drewR _)
            rw [hwq]
            clear hwq HG HT HU HK HV HC y0 y1 y2 y3 y4 y5 y6 y7 z6 z7 hck hsr
            refine wp_region_plan3 (fun w' => Blk w' g (wkC p fr to most mp pp np cp pk es.length ck pv es.length cv) TW ∧ Blk w' t3 [.bool true, .slice (some ⟨bk, ok, none⟩) nl dk, .slice (some ⟨bv, ov, none⟩) nl dv, .slice qd md dd] TN ∧ w'.cell? ⟨bv, ov + i, none⟩ = some (.string (B u))) (fun j => !([7, 8, 18, 19, 22, 25].contains j)) (fun j => [5, 12, 14, 17].contains j) (fun j => [22, 25].contains j)
              (.cons 0 (.cons 1 (.cons 2 (.cons 3 (.cons 4 (.cons 5 (.cons 6 (.cons 9 (.cons 10 (.cons 11 (.cons 12 (.cons 13 (.cons 14 (.cons 15 (.cons 16 (.cons 17 (.fork 7 18 (.fork 8 18 (.cons 18 (.cons 19 (.cons 20 (.cons 21 (.cons 22 (.cons 23 (.cons 24 (.cons 25 .nil)))))))) (.cons 8 (.cons 19 (.cons 20 (.cons 21 (.cons 22 (.cons 23 (.cons 24 (.cons 25 .nil))))))))) (.cons 7 (.cons 8 (.cons 19 (.cons 20 (.cons 21 (.cons 22 (.cons 23 (.cons 24 (.cons 25 .nil)))))))))))))))))))))))))) (by kernel_rfl) (by kernel_rfl) rfl (by kernel_rfl) (by kernel_rfl) ⟨HGq.out, HTq.out, HUq.out⟩ ?_
            iterate 16 (apply wpPlan3_val; (case ho => rfl); (case hst => rfl); (case hw => rfl); (case hv => intro w' hS; (try (have hS := hS rfl; obtain ⟨x0, x1, x2, x3, x4, x5, x6, x7, _, _⟩ := wk_cells hS.1; obtain ⟨x8, x9, x10, x11, _, _, _, _⟩ := four_cells hS.2.1; have x12 := hS.2.2)); go_simp; first | done | rfl); intro K hK; go_simp; refine hK _ ?_; clear hK K)
            obtain ⟨wz, hwz⟩ : ∃ x, wq.drew = x := ⟨_, rfl⟩
            have HGz := hid (show Blk wz g (wkC p fr to most mp pp np cp pk es.length ck pv es.length cv) TW by rw [← hwz]; exact HGq.out)
            have HTz := hid (show Blk wz t3 [.bool true, .slice (some ⟨bk, ok, none⟩) nl dk, .slice (some ⟨bv, ov, none⟩) nl dv, .slice qd md dd] TN by rw [← hwz]; exact HTq.out)
            have HUz := hid (show wz.cell? ⟨bv, ov + i, none⟩ = some (.string (B u)) by rw [← hwz]; exact HUq.out)
            have HKz := hid (show wz.ownsRow W0 TSt 1 (.slice pk es.length ck) es.length (tv (es.map (·.1))) by rw [← hwz]; exact HKq.out)
            have HVz := hid (show wz.ownsRow W0 TSt 1 (.slice pv es.length cv) es.length (tv (es.map (·.2))) by rw [← hwz]; exact HVq.out)
            have HCz := hid (show Chg (fun x => x = g ∨ Value.ownBlock (.slice pk0 k0 ck0) = some x ∨ Value.ownBlock (.slice pv0 k0 cv0) = some x) w wz by rw [← hwz]; exact HCq.out.drewR 1)
            rw [hwz]
            clear hwz HGq HTq HUq HKq HVq HCq
            refine ⟨?_, ?_⟩
            · refine effect_list rfl rfl (fun K hK => ?_)
              refine wpList_step (fun K2 hK2 => ?_)
              go_simp
              refine hK2 _ _ ?_
              clear hK2 K2
              simp only [wpList]
              have hal18 : Below wz.heap.size wz (wz.alloc (.cells #[.string (B k)] TSt)) := (Below.refl _ _).alloc (Nat.le_refl _) _
              obtain ⟨b18, hb18⟩ : ∃ b, wz.heap.size = b := ⟨_, rfl⟩
              obtain ⟨w18, hw18⟩ : ∃ x, wz.alloc (.cells #[.string (B k)] TSt) = x := ⟨_, rfl⟩
              have HN18 : Hid (Blk w18 b18 [.string (B k)] TSt ∧ b18 < w18.heap.size) := hid (by rw [← hw18, ← hb18]; exact ⟨heap_alloc_new _ _, by simp⟩)
              rw [hw18] at hal18 ⊢
              rw [hb18]
              clear hw18
              have HG18 := hid (HGz.out.chg (Chg.new hal18 NoFp) (fun h => h))
              have HT18 := hid (HTz.out.chg (Chg.new hal18 NoFp) (fun h => h))
              have HU18 := hid ((hal18.cell (p := ⟨bv, ov + i, none⟩) (World.block_lt_of_cell? _ _ HUz.out)).trans HUz.out)
              have HK18 := hid (own_new HKz.out hal18)
              have HV18 := hid (own_new HVz.out hal18)
              have HC18 := hid (HCz.out.trans (Chg.new hal18 NoFp) (fun _ _ h => h.elim))
              have F18 := hid (show Value.ownBlock (.slice pv es.length cv) ≠ some b18 from fun h => by have := (own_lt HVz.out _ h).2; omega)
              have hsz18 : w.heap.size ≤ w18.heap.size := HC18.out.size
              clear hal18 hb18
              refine hK _ _ (fun _ => ⟨HG18.out, HT18.out, HU18.out⟩) ?_
              clear hK K
              refine ⟨?_, ?_⟩
              · refine effect_list rfl rfl (fun K hK => ?_)
                refine wpList_append_rd rfl _ _ 33 rfl W0 TSt _ 1 16 Try.underlying33 infoSt rfl (by decide) _ _ _ rfl HK18.out (.slice (some ⟨b18, 0, none⟩) 1 1) 1 [.string (B k)] rfl (rd_val HN18.out.1) (by simp [Value.oneCell']) (by simp only [maxLen]; omega) (by omega) (Nat.le_trans hW HC18.out.size) ?_
                intro p19 c19 w19 ho19 hg19 hv19
                have hg19 : w18.grownBy w19 (Value.ownBlock (.slice pk es.length ck)) := ⟨hg19.os, hg19.tape, hg19.output, hg19.size, hg19.block⟩
                have hv19 : Value.ownBlock (.slice p19 (es.length + 1) c19) = Value.ownBlock (.slice pk es.length ck) ∨ Value.ownBlock (.slice p19 (es.length + 1) c19) = some w18.heap.size := hv19
                have HG19 := hid (HG18.out.chg (Chg.grown hg19) (own_blk_ne HK18.out HG18.out (by decide)))
                have HT19 := hid (HT18.out.chg (Chg.grown hg19) (own_blk_ne HK18.out HT18.out (by decide)))
                have HV19 := hid (own_chg HV18.out (Chg.grown hg19) (fun g h1 h2 => HNE.out g h2 h1))
                have HU19 := hid (show w19.cell? ⟨bv, ov + i, none⟩ = some (.string (B u)) from (World.cell?_of_block (w := w18) (a := ⟨bv, ov + i, none⟩) (hg19.block bv (World.block_lt_of_cell? _ _ HU18.out) (fun h => by rcases HPK.out bv h.symm with h2 | h2; exact absurd h2 (HNB.out.1); exact absurd HNB.out.2.2.2 (by omega)))).trans HU18.out)
                have HC19 := hid (HC18.out.trans (Chg.grown hg19) (fun x hx h => by rcases HPK.out x h with h2 | h2; exact .inr (.inl h2); omega))
                have HPK19 : Hid (∀ x, Value.ownBlock (.slice p19 (es.length + 1) c19) = some x → Value.ownBlock (.slice pk0 k0 ck0) = some x ∨ w.heap.size ≤ x) := hid (fun x hx => by rcases hv19 with h | h; exact HPK.out x (h ▸ hx); rw [h] at hx; injection hx with hx; have := HC18.out.size; omega)
                have HNE19 := hid (neB_next (w := w18) (v := (.slice pk es.length ck)) (v' := .slice p19 (es.length + 1) c19) HNE.out.symm (fun g h1 => (own_lt HV18.out g h1).2) hv19)
                have HNE19 := hid HNE19.out.symm
                have HK19 := hid ho19
                have hsz19 : w.heap.size ≤ w19.heap.size := HC19.out.size
                clear ho19 hg19 hv19
                simp only [wpList]
                refine hK _ _ (fun _ => ⟨HG19.out, HT19.out, HU19.out⟩) ?_
                clear hK K
                refine wpPlan3_list rfl rfl rfl (fun K hK => ?_)
                refine wpList_step (fun K2 hK2 => ?_)
                go_simp
                refine hK2 _ _ ?_
                clear hK2 K2
                simp only [wpList]
                have hal20 : Below w19.heap.size w19 (w19.alloc (.cells #[.string (B u)] TSt)) := (Below.refl _ _).alloc (Nat.le_refl _) _
                obtain ⟨b20, hb20⟩ : ∃ b, w19.heap.size = b := ⟨_, rfl⟩
                obtain ⟨w20, hw20⟩ : ∃ x, w19.alloc (.cells #[.string (B u)] TSt) = x := ⟨_, rfl⟩
                have HN20 : Hid (Blk w20 b20 [.string (B u)] TSt ∧ b20 < w20.heap.size) := hid (by rw [← hw20, ← hb20]; exact ⟨heap_alloc_new _ _, by simp⟩)
                rw [hw20] at hal20 ⊢
                rw [hb20]
                clear hw20
                have HG20 := hid (HG19.out.chg (Chg.new hal20 NoFp) (fun h => h))
                have HT20 := hid (HT19.out.chg (Chg.new hal20 NoFp) (fun h => h))
                have HU20 := hid ((hal20.cell (p := ⟨bv, ov + i, none⟩) (World.block_lt_of_cell? _ _ HU19.out)).trans HU19.out)
                have HK20 := hid (own_new HK19.out hal20)
                have HV20 := hid (own_new HV19.out hal20)
                have HC20 := hid (HC19.out.trans (Chg.new hal20 NoFp) (fun _ _ h => h.elim))
                have F20 := hid (show Value.ownBlock (.slice p19 (es.length + 1) c19) ≠ some b20 from fun h => by have := (own_lt HK19.out _ h).2; omega)
                have hsz20 : w.heap.size ≤ w20.heap.size := HC20.out.size
                clear hal20 hb20
                refine hK _ _ (fun _ => ⟨HG20.out, HT20.out, HU20.out⟩) ?_
                clear hK K
                refine wpPlan3_list rfl rfl rfl (fun K hK => ?_)
                refine wpList_append_rd rfl _ _ 33 rfl W0 TSt _ 1 16 Try.underlying33 infoSt rfl (by decide) _ _ _ rfl HV20.out (.slice (some ⟨b20, 0, none⟩) 1 1) 1 [.string (B u)] rfl (rd_val HN20.out.1) (by simp [Value.oneCell']) (by simp only [maxLen]; omega) (by omega) (Nat.le_trans hW HC20.out.size) ?_
                intro p21 c21 w21 ho21 hg21 hv21
                have hg21 : w20.grownBy w21 (Value.ownBlock (.slice pv es.length cv)) := ⟨hg21.os, hg21.tape, hg21.output, hg21.size, hg21.block⟩
                have hv21 : Value.ownBlock (.slice p21 (es.length + 1) c21) = Value.ownBlock (.slice pv es.length cv) ∨ Value.ownBlock (.slice p21 (es.length + 1) c21) = some w20.heap.size := hv21
                have HG21 := hid (HG20.out.chg (Chg.grown hg21) (own_blk_ne HV20.out HG20.out (by decide)))
                have HT21 := hid (HT20.out.chg (Chg.grown hg21) (own_blk_ne HV20.out HT20.out (by decide)))
                have HK21 := hid (own_chg HK20.out (Chg.grown hg21) (fun g h1 h2 => HNE19.out.symm g h2 h1))
                have HU21 := hid (show w21.cell? ⟨bv, ov + i, none⟩ = some (.string (B u)) from (World.cell?_of_block (w := w20) (a := ⟨bv, ov + i, none⟩) (hg21.block bv (World.block_lt_of_cell? _ _ HU20.out) (fun h => by rcases HPV.out bv h.symm with h2 | h2; exact absurd h2 (HNB.out.2.1); exact absurd HNB.out.2.2.2 (by omega)))).trans HU20.out)
                have HC21 := hid (HC20.out.trans (Chg.grown hg21) (fun x hx h => by rcases HPV.out x h with h2 | h2; exact .inr (.inr h2); omega))
                have HPV21 : Hid (∀ x, Value.ownBlock (.slice p21 (es.length + 1) c21) = some x → Value.ownBlock (.slice pv0 k0 cv0) = some x ∨ w.heap.size ≤ x) := hid (fun x hx => by rcases hv21 with h | h; exact HPV.out x (h ▸ hx); rw [h] at hx; injection hx with hx; have := HC20.out.size; omega)
                have HNE21 := hid (neB_next (w := w20) (v := (.slice pv es.length cv)) (v' := .slice p21 (es.length + 1) c21) HNE19.out.symm.symm (fun g h1 => (own_lt HK20.out g h1).2) hv21)
                have HV21 := hid ho21
                have hsz21 : w.heap.size ≤ w21.heap.size := HC21.out.size
                clear ho21 hg21 hv21
                simp only [wpList]
                refine hK _ _ (fun _ => ⟨HG21.out, HT21.out, HU21.out⟩) ?_
                clear hK K
                (apply wpPlan3_val; (case ho => rfl); (case hst => rfl); (case hw => rfl); (case hv => intro w' hS; go_simp; first | done | rfl); intro K hK; go_simp; refine hK _ ?_; clear hK K)
                (apply wpPlan3_val; (case ho => rfl); (case hst => rfl); (case hw => rfl); (case hv => intro w' hS; go_simp; first | done | rfl); intro K hK; go_simp; refine hK _ ?_; clear hK K)
                refine wpPlan3_list rfl rfl rfl (fun K hK => ?_)
                obtain ⟨y022, y122, y222, y322, y422, y522, y622, y722, z622, z722⟩ := wk_cells HG21.out
                refine wpList_step (fun K2 hK2 => ?_)
                go_simp
                refine hK2 _ _ ?_
                clear hK2 K2
                simp only [wpList]
                refine hK _ _ (fun h => by cases h) ?_
                clear hK K
                obtain ⟨w22, hw22⟩ : ∃ x, w21.setCell ⟨g, 6, none⟩ (.slice p19 (es.length + 1) c19) = x := ⟨_, rfl⟩
                have HG22 : Hid (Blk w22 g (wkC p fr to most mp pp np cp p19 (es.length + 1) c19 pv es.length cv) TW) := hid (by rw [← hw22]; exact HG21.out.set 6 (.slice p19 (es.length + 1) c19))
                rw [hw22]
                have hc22 : Chg (fun k => k = g) w21 w22 := by rw [← hw22]; exact Chg.setCell (fp := fun k => k = g) _ rfl _
                have HT22 := hid (HT21.out.chg hc22 (fun h => absurd h HNB.out.2.2.1))
                have HK22 := hid (own_chg HK21.out hc22 (fun x hx h => by have := own_blk_ne HK21.out HG21.out (by decide); rw [h] at hx; exact this hx))
                have HV22 := hid (own_chg HV21.out hc22 (fun x hx h => by have := own_blk_ne HV21.out HG21.out (by decide); rw [h] at hx; exact this hx))
                have HC22 := hid (HC21.out.trans hc22 (fun x hx h => .inl h))
                clear hw22 hc22 y022 y122 y222 y322 y422 y522 y622 y722 z622 z722
                (apply wpPlan3_val; (case ho => rfl); (case hst => rfl); (case hw => rfl); (case hv => intro w' hS; go_simp; first | done | rfl); intro K hK; go_simp; refine hK _ ?_; clear hK K)
                (apply wpPlan3_val; (case ho => rfl); (case hst => rfl); (case hw => rfl); (case hv => intro w' hS; go_simp; first | done | rfl); intro K hK; go_simp; refine hK _ ?_; clear hK K)
                refine wpPlan3_list rfl rfl rfl (fun K hK => ?_)
                obtain ⟨y023, y123, y223, y323, y423, y523, y623, y723, z623, z723⟩ := wk_cells HG22.out
                refine wpList_step (fun K2 hK2 => ?_)
                go_simp
                refine hK2 _ _ ?_
                clear hK2 K2
                simp only [wpList]
                refine hK _ _ (fun h => by cases h) ?_
                clear hK K
                obtain ⟨w23, hw23⟩ : ∃ x, w22.setCell ⟨g, 7, none⟩ (.slice p21 (es.length + 1) c21) = x := ⟨_, rfl⟩
                have HG23 : Hid (Blk w23 g (wkC p fr to most mp pp np cp p19 (es.length + 1) c19 p21 (es.length + 1) c21) TW) := hid (by rw [← hw23]; exact HG22.out.set 7 (.slice p21 (es.length + 1) c21))
                rw [hw23]
                have hc23 : Chg (fun k => k = g) w22 w23 := by rw [← hw23]; exact Chg.setCell (fp := fun k => k = g) _ rfl _
                have HT23 := hid (HT22.out.chg hc23 (fun h => absurd h HNB.out.2.2.1))
                have HK23 := hid (own_chg HK22.out hc23 (fun x hx h => by have := own_blk_ne HK22.out HG22.out (by decide); rw [h] at hx; exact this hx))
                have HV23 := hid (own_chg HV22.out hc23 (fun x hx h => by have := own_blk_ne HV22.out HG22.out (by decide); rw [h] at hx; exact this hx))
                have HC23 := hid (HC22.out.trans hc23 (fun x hx h => .inl h))
                clear hw23 hc23 y023 y123 y223 y323 y423 y523 y623 y723 z623 z723
                refine wpPlan3_nil ?_
                simp only [Qn]
                have HKK := hid (show w23.ownsRow W0 TSt 1 (.slice p19 (es.length + 1) c19) (es.length + 1) (tv ((es ++ [(k, u)]).map (·.1))) by rw [List.map_append, tv_app]; exact HK23.out)
                have HVV := hid (show w23.ownsRow W0 TSt 1 (.slice p21 (es.length + 1) c21) (es.length + 1) (tv ((es ++ [(k, u)]).map (·.2))) by rw [List.map_append, tv_app]; exact HV23.out)
                go_wp2_with fail
                go_roundw
                case rel => exact ⟨i + 1, es ++ [(k, u)], p19, c19, p21, c21, by first | rfl | (congr 1; omega) | (congr 1), hlt, HC23.out.size, by rw [List.length_append]; exact HLE.out, by rw [List.length_append]; show es.length + 1 ≤ _; omega, hid (by rw [HTK.out, rngM_app, HRG.out, ← List.append_assoc, ← HES.out]), by rw [List.length_append]; exact HG23, by rw [List.length_append]; exact HKK, by rw [List.length_append]; exact HVV, by rw [List.length_append]; exact HNE21, HT23, by rw [List.length_append]; exact HPK19, by rw [List.length_append]; exact HPV21, HC23⟩
                case measure => simp [intOf]; omega
              · refine effect_list rfl rfl (fun K hK => ?_)
                refine wpList_step (fun K2 hK2 => ?_)
                go_simp
                refine hK2 _ _ ?_
                clear hK2 K2
                simp only [wpList]
                have hal24 : Below w18.heap.size w18 (w18.alloc (.cells #[.string (B u)] TSt)) := (Below.refl _ _).alloc (Nat.le_refl _) _
                obtain ⟨b24, hb24⟩ : ∃ b, w18.heap.size = b := ⟨_, rfl⟩
                obtain ⟨w24, hw24⟩ : ∃ x, w18.alloc (.cells #[.string (B u)] TSt) = x := ⟨_, rfl⟩
                have HN24 : Hid (Blk w24 b24 [.string (B u)] TSt ∧ b24 < w24.heap.size) := hid (by rw [← hw24, ← hb24]; exact ⟨heap_alloc_new _ _, by simp⟩)
                rw [hw24] at hal24 ⊢
                rw [hb24]
                clear hw24
                have HG24 := hid (HG18.out.chg (Chg.new hal24 NoFp) (fun h => h))
                have HT24 := hid (HT18.out.chg (Chg.new hal24 NoFp) (fun h => h))
                have HU24 := hid ((hal24.cell (p := ⟨bv, ov + i, none⟩) (World.block_lt_of_cell? _ _ HU18.out)).trans HU18.out)
                have HK24 := hid (own_new HK18.out hal24)
                have HV24 := hid (own_new HV18.out hal24)
                have HC24 := hid (HC18.out.trans (Chg.new hal24 NoFp) (fun _ _ h => h.elim))
                have HA24 := hid (And.intro (HN18.out.1.chg (Chg.new hal24 NoFp) (fun h => h)) (Nat.lt_of_lt_of_le HN18.out.2 hal24.size))
                have F24 := hid (show Value.ownBlock (.slice pk es.length ck) ≠ some b24 from fun h => by have := (own_lt HK18.out _ h).2; omega)
                have hsz24 : w.heap.size ≤ w24.heap.size := HC24.out.size
                clear hal24 hb24
                refine hK _ _ (fun _ => ⟨HG24.out, HT24.out, HU24.out⟩) ?_
                clear hK K
                refine wpPlan3_list rfl rfl rfl (fun K hK => ?_)
                refine wpList_append_rd rfl _ _ 33 rfl W0 TSt _ 1 16 Try.underlying33 infoSt rfl (by decide) _ _ _ rfl HK24.out (.slice (some ⟨b18, 0, none⟩) 1 1) 1 [.string (B k)] rfl (rd_val HA24.out.1) (by simp [Value.oneCell']) (by simp only [maxLen]; omega) (by omega) (Nat.le_trans hW HC24.out.size) ?_
                intro p25 c25 w25 ho25 hg25 hv25
                have hg25 : w24.grownBy w25 (Value.ownBlock (.slice pk es.length ck)) := ⟨hg25.os, hg25.tape, hg25.output, hg25.size, hg25.block⟩
                have hv25 : Value.ownBlock (.slice p25 (es.length + 1) c25) = Value.ownBlock (.slice pk es.length ck) ∨ Value.ownBlock (.slice p25 (es.length + 1) c25) = some w24.heap.size := hv25
                have HG25 := hid (HG24.out.chg (Chg.grown hg25) (own_blk_ne HK24.out HG24.out (by decide)))
                have HT25 := hid (HT24.out.chg (Chg.grown hg25) (own_blk_ne HK24.out HT24.out (by decide)))
                have HV25 := hid (own_chg HV24.out (Chg.grown hg25) (fun g h1 h2 => HNE.out g h2 h1))
                have HU25 := hid (show w25.cell? ⟨bv, ov + i, none⟩ = some (.string (B u)) from (World.cell?_of_block (w := w24) (a := ⟨bv, ov + i, none⟩) (hg25.block bv (World.block_lt_of_cell? _ _ HU24.out) (fun h => by rcases HPK.out bv h.symm with h2 | h2; exact absurd h2 (HNB.out.1); exact absurd HNB.out.2.2.2 (by omega)))).trans HU24.out)
                have HC25 := hid (HC24.out.trans (Chg.grown hg25) (fun x hx h => by rcases HPK.out x h with h2 | h2; exact .inr (.inl h2); omega))
                have HPK25 : Hid (∀ x, Value.ownBlock (.slice p25 (es.length + 1) c25) = some x → Value.ownBlock (.slice pk0 k0 ck0) = some x ∨ w.heap.size ≤ x) := hid (fun x hx => by rcases hv25 with h | h; exact HPK.out x (h ▸ hx); rw [h] at hx; injection hx with hx; have := HC24.out.size; omega)
                have HNE25 := hid (neB_next (w := w24) (v := (.slice pk es.length ck)) (v' := .slice p25 (es.length + 1) c25) HNE.out.symm (fun g h1 => (own_lt HV24.out g h1).2) hv25)
                have HNE25 := hid HNE25.out.symm
                have HB25 := hid (And.intro (HN24.out.1.chg (Chg.grown hg25) (fun h => F24.out h)) (Nat.lt_of_lt_of_le HN24.out.2 hg25.size))
                have HK25 := hid ho25
                have hsz25 : w.heap.size ≤ w25.heap.size := HC25.out.size
                clear ho25 hg25 hv25
                simp only [wpList]
                refine hK _ _ (fun _ => ⟨HG25.out, HT25.out, HU25.out⟩) ?_
                clear hK K
                refine wpPlan3_list rfl rfl rfl (fun K hK => ?_)
                refine wpList_append_rd rfl _ _ 33 rfl W0 TSt _ 1 16 Try.underlying33 infoSt rfl (by decide) _ _ _ rfl HV25.out (.slice (some ⟨b24, 0, none⟩) 1 1) 1 [.string (B u)] rfl (rd_val HB25.out.1) (by simp [Value.oneCell']) (by simp only [maxLen]; omega) (by omega) (Nat.le_trans hW HC25.out.size) ?_
                intro p26 c26 w26 ho26 hg26 hv26
                have hg26 : w25.grownBy w26 (Value.ownBlock (.slice pv es.length cv)) := ⟨hg26.os, hg26.tape, hg26.output, hg26.size, hg26.block⟩
                have hv26 : Value.ownBlock (.slice p26 (es.length + 1) c26) = Value.ownBlock (.slice pv es.length cv) ∨ Value.ownBlock (.slice p26 (es.length + 1) c26) = some w25.heap.size := hv26
                have HG26 := hid (HG25.out.chg (Chg.grown hg26) (own_blk_ne HV25.out HG25.out (by decide)))
                have HT26 := hid (HT25.out.chg (Chg.grown hg26) (own_blk_ne HV25.out HT25.out (by decide)))
                have HK26 := hid (own_chg HK25.out (Chg.grown hg26) (fun g h1 h2 => HNE25.out.symm g h2 h1))
                have HU26 := hid (show w26.cell? ⟨bv, ov + i, none⟩ = some (.string (B u)) from (World.cell?_of_block (w := w25) (a := ⟨bv, ov + i, none⟩) (hg26.block bv (World.block_lt_of_cell? _ _ HU25.out) (fun h => by rcases HPV.out bv h.symm with h2 | h2; exact absurd h2 (HNB.out.2.1); exact absurd HNB.out.2.2.2 (by omega)))).trans HU25.out)
                have HC26 := hid (HC25.out.trans (Chg.grown hg26) (fun x hx h => by rcases HPV.out x h with h2 | h2; exact .inr (.inr h2); omega))
                have HPV26 : Hid (∀ x, Value.ownBlock (.slice p26 (es.length + 1) c26) = some x → Value.ownBlock (.slice pv0 k0 cv0) = some x ∨ w.heap.size ≤ x) := hid (fun x hx => by rcases hv26 with h | h; exact HPV.out x (h ▸ hx); rw [h] at hx; injection hx with hx; have := HC25.out.size; omega)
                have HNE26 := hid (neB_next (w := w25) (v := (.slice pv es.length cv)) (v' := .slice p26 (es.length + 1) c26) HNE25.out.symm.symm (fun g h1 => (own_lt HK25.out g h1).2) hv26)
                have HV26 := hid ho26
                have hsz26 : w.heap.size ≤ w26.heap.size := HC26.out.size
                clear ho26 hg26 hv26
                simp only [wpList]
                refine hK _ _ (fun _ => ⟨HG26.out, HT26.out, HU26.out⟩) ?_
                clear hK K
                (apply wpPlan3_val; (case ho => rfl); (case hst => rfl); (case hw => rfl); (case hv => intro w' hS; go_simp; first | done | rfl); intro K hK; go_simp; refine hK _ ?_; clear hK K)
                (apply wpPlan3_val; (case ho => rfl); (case hst => rfl); (case hw => rfl); (case hv => intro w' hS; go_simp; first | done | rfl); intro K hK; go_simp; refine hK _ ?_; clear hK K)
                refine wpPlan3_list rfl rfl rfl (fun K hK => ?_)
                obtain ⟨y027, y127, y227, y327, y427, y527, y627, y727, z627, z727⟩ := wk_cells HG26.out
                refine wpList_step (fun K2 hK2 => ?_)
                go_simp
                refine hK2 _ _ ?_
                clear hK2 K2
                simp only [wpList]
                refine hK _ _ (fun h => by cases h) ?_
                clear hK K
                obtain ⟨w27, hw27⟩ : ∃ x, w26.setCell ⟨g, 6, none⟩ (.slice p25 (es.length + 1) c25) = x := ⟨_, rfl⟩
                have HG27 : Hid (Blk w27 g (wkC p fr to most mp pp np cp p25 (es.length + 1) c25 pv es.length cv) TW) := hid (by rw [← hw27]; exact HG26.out.set 6 (.slice p25 (es.length + 1) c25))
                rw [hw27]
                have hc27 : Chg (fun k => k = g) w26 w27 := by rw [← hw27]; exact Chg.setCell (fp := fun k => k = g) _ rfl _
                have HT27 := hid (HT26.out.chg hc27 (fun h => absurd h HNB.out.2.2.1))
                have HK27 := hid (own_chg HK26.out hc27 (fun x hx h => by have := own_blk_ne HK26.out HG26.out (by decide); rw [h] at hx; exact this hx))
                have HV27 := hid (own_chg HV26.out hc27 (fun x hx h => by have := own_blk_ne HV26.out HG26.out (by decide); rw [h] at hx; exact this hx))
                have HC27 := hid (HC26.out.trans hc27 (fun x hx h => .inl h))
                clear hw27 hc27 y027 y127 y227 y327 y427 y527 y627 y727 z627 z727
                (apply wpPlan3_val; (case ho => rfl); (case hst => rfl); (case hw => rfl); (case hv => intro w' hS; go_simp; first | done | rfl); intro K hK; go_simp; refine hK _ ?_; clear hK K)
                (apply wpPlan3_val; (case ho => rfl); (case hst => rfl); (case hw => rfl); (case hv => intro w' hS; go_simp; first | done | rfl); intro K hK; go_simp; refine hK _ ?_; clear hK K)
                refine wpPlan3_list rfl rfl rfl (fun K hK => ?_)
                obtain ⟨y028, y128, y228, y328, y428, y528, y628, y728, z628, z728⟩ := wk_cells HG27.out
                refine wpList_step (fun K2 hK2 => ?_)
                go_simp
                refine hK2 _ _ ?_
                clear hK2 K2
                simp only [wpList]
                refine hK _ _ (fun h => by cases h) ?_
                clear hK K
                obtain ⟨w28, hw28⟩ : ∃ x, w27.setCell ⟨g, 7, none⟩ (.slice p26 (es.length + 1) c26) = x := ⟨_, rfl⟩
                have HG28 : Hid (Blk w28 g (wkC p fr to most mp pp np cp p25 (es.length + 1) c25 p26 (es.length + 1) c26) TW) := hid (by rw [← hw28]; exact HG27.out.set 7 (.slice p26 (es.length + 1) c26))
                rw [hw28]
                have hc28 : Chg (fun k => k = g) w27 w28 := by rw [← hw28]; exact Chg.setCell (fp := fun k => k = g) _ rfl _
                have HT28 := hid (HT27.out.chg hc28 (fun h => absurd h HNB.out.2.2.1))
                have HK28 := hid (own_chg HK27.out hc28 (fun x hx h => by have := own_blk_ne HK27.out HG27.out (by decide); rw [h] at hx; exact this hx))
                have HV28 := hid (own_chg HV27.out hc28 (fun x hx h => by have := own_blk_ne HV27.out HG27.out (by decide); rw [h] at hx; exact this hx))
                have HC28 := hid (HC27.out.trans hc28 (fun x hx h => .inl h))
                clear hw28 hc28 y028 y128 y228 y328 y428 y528 y628 y728 z628 z728
                refine wpPlan3_nil ?_
                simp only [Qn]
                have HKK := hid (show w28.ownsRow W0 TSt 1 (.slice p25 (es.length + 1) c25) (es.length + 1) (tv ((es ++ [(k, u)]).map (·.1))) by rw [List.map_append, tv_app]; exact HK28.out)
                have HVV := hid (show w28.ownsRow W0 TSt 1 (.slice p26 (es.length + 1) c26) (es.length + 1) (tv ((es ++ [(k, u)]).map (·.2))) by rw [List.map_append, tv_app]; exact HV28.out)
                go_wp2_with fail
                go_roundw
                case rel => exact ⟨i + 1, es ++ [(k, u)], p25, c25, p26, c26, by first | rfl | (congr 1; omega) | (congr 1), hlt, HC28.out.size, by rw [List.length_append]; exact HLE.out, by rw [List.length_append]; show es.length + 1 ≤ _; omega, hid (by rw [HTK.out, rngM_app, HRG.out, ← List.append_assoc, ← HES.out]), by rw [List.length_append]; exact HG28, by rw [List.length_append]; exact HKK, by rw [List.length_append]; exact HVV, by rw [List.length_append]; exact HNE26, HT28, by rw [List.length_append]; exact HPK25, by rw [List.length_append]; exact HPV26, HC28⟩
                case measure => simp [intOf]; omega
            · refine effect_list rfl rfl (fun K hK => ?_)
              refine wpList_step (fun K2 hK2 => ?_)
              go_simp
              refine hK2 _ _ ?_
              clear hK2 K2
              simp only [wpList]
              have hal29 : Below wz.heap.size wz (wz.alloc (.cells #[.string (B u)] TSt)) := (Below.refl _ _).alloc (Nat.le_refl _) _
              obtain ⟨b29, hb29⟩ : ∃ b, wz.heap.size = b := ⟨_, rfl⟩
              obtain ⟨w29, hw29⟩ : ∃ x, wz.alloc (.cells #[.string (B u)] TSt) = x := ⟨_, rfl⟩
              have HN29 : Hid (Blk w29 b29 [.string (B u)] TSt ∧ b29 < w29.heap.size) := hid (by rw [← hw29, ← hb29]; exact ⟨heap_alloc_new _ _, by simp⟩)
              rw [hw29] at hal29 ⊢
              rw [hb29]
              clear hw29
              have HG29 := hid (HGz.out.chg (Chg.new hal29 NoFp) (fun h => h))
              have HT29 := hid (HTz.out.chg (Chg.new hal29 NoFp) (fun h => h))
              have HU29 := hid ((hal29.cell (p := ⟨bv, ov + i, none⟩) (World.block_lt_of_cell? _ _ HUz.out)).trans HUz.out)
              have HK29 := hid (own_new HKz.out hal29)
              have HV29 := hid (own_new HVz.out hal29)
              have HC29 := hid (HCz.out.trans (Chg.new hal29 NoFp) (fun _ _ h => h.elim))
              have F29 := hid (show Value.ownBlock (.slice pk es.length ck) ≠ some b29 from fun h => by have := (own_lt HKz.out _ h).2; omega)
              have hsz29 : w.heap.size ≤ w29.heap.size := HC29.out.size
              clear hal29 hb29
              refine hK _ _ (fun _ => ⟨HG29.out, HT29.out, HU29.out⟩) ?_
              clear hK K
              refine wpPlan3_list rfl rfl rfl (fun K hK => ?_)
              refine wpList_step (fun K2 hK2 => ?_)
              go_simp
              refine hK2 _ _ ?_
              clear hK2 K2
              simp only [wpList]
              have hal30 : Below w29.heap.size w29 (w29.alloc (.cells #[.string (B k)] TSt)) := (Below.refl _ _).alloc (Nat.le_refl _) _
              obtain ⟨b30, hb30⟩ : ∃ b, w29.heap.size = b := ⟨_, rfl⟩
              obtain ⟨w30, hw30⟩ : ∃ x, w29.alloc (.cells #[.string (B k)] TSt) = x := ⟨_, rfl⟩
              have HN30 : Hid (Blk w30 b30 [.string (B k)] TSt ∧ b30 < w30.heap.size) := hid (by rw [← hw30, ← hb30]; exact ⟨heap_alloc_new _ _, by simp⟩)
              rw [hw30] at hal30 ⊢
              rw [hb30]
              clear hw30
              have HG30 := hid (HG29.out.chg (Chg.new hal30 NoFp) (fun h => h))
              have HT30 := hid (HT29.out.chg (Chg.new hal30 NoFp) (fun h => h))
              have HU30 := hid ((hal30.cell (p := ⟨bv, ov + i, none⟩) (World.block_lt_of_cell? _ _ HU29.out)).trans HU29.out)
              have HK30 := hid (own_new HK29.out hal30)
              have HV30 := hid (own_new HV29.out hal30)
              have HC30 := hid (HC29.out.trans (Chg.new hal30 NoFp) (fun _ _ h => h.elim))
              have HB30 := hid (And.intro (HN29.out.1.chg (Chg.new hal30 NoFp) (fun h => h)) (Nat.lt_of_lt_of_le HN29.out.2 hal30.size))
              have F30 := hid (show Value.ownBlock (.slice pv es.length cv) ≠ some b30 from fun h => by have := (own_lt HV29.out _ h).2; omega)
              have hsz30 : w.heap.size ≤ w30.heap.size := HC30.out.size
              clear hal30 hb30
              refine hK _ _ (fun _ => ⟨HG30.out, HT30.out, HU30.out⟩) ?_
              clear hK K
              refine wpPlan3_list rfl rfl rfl (fun K hK => ?_)
              refine wpList_append_rd rfl _ _ 33 rfl W0 TSt _ 1 16 Try.underlying33 infoSt rfl (by decide) _ _ _ rfl HK30.out (.slice (some ⟨b30, 0, none⟩) 1 1) 1 [.string (B k)] rfl (rd_val HN30.out.1) (by simp [Value.oneCell']) (by simp only [maxLen]; omega) (by omega) (Nat.le_trans hW HC30.out.size) ?_
              intro p31 c31 w31 ho31 hg31 hv31
              have hg31 : w30.grownBy w31 (Value.ownBlock (.slice pk es.length ck)) := ⟨hg31.os, hg31.tape, hg31.output, hg31.size, hg31.block⟩
              have hv31 : Value.ownBlock (.slice p31 (es.length + 1) c31) = Value.ownBlock (.slice pk es.length ck) ∨ Value.ownBlock (.slice p31 (es.length + 1) c31) = some w30.heap.size := hv31
              have HG31 := hid (HG30.out.chg (Chg.grown hg31) (own_blk_ne HK30.out HG30.out (by decide)))
              have HT31 := hid (HT30.out.chg (Chg.grown hg31) (own_blk_ne HK30.out HT30.out (by decide)))
              have HV31 := hid (own_chg HV30.out (Chg.grown hg31) (fun g h1 h2 => HNE.out g h2 h1))
              have HU31 := hid (show w31.cell? ⟨bv, ov + i, none⟩ = some (.string (B u)) from (World.cell?_of_block (w := w30) (a := ⟨bv, ov + i, none⟩) (hg31.block bv (World.block_lt_of_cell? _ _ HU30.out) (fun h => by rcases HPK.out bv h.symm with h2 | h2; exact absurd h2 (HNB.out.1); exact absurd HNB.out.2.2.2 (by omega)))).trans HU30.out)
              have HC31 := hid (HC30.out.trans (Chg.grown hg31) (fun x hx h => by rcases HPK.out x h with h2 | h2; exact .inr (.inl h2); omega))
              have HPK31 : Hid (∀ x, Value.ownBlock (.slice p31 (es.length + 1) c31) = some x → Value.ownBlock (.slice pk0 k0 ck0) = some x ∨ w.heap.size ≤ x) := hid (fun x hx => by rcases hv31 with h | h; exact HPK.out x (h ▸ hx); rw [h] at hx; injection hx with hx; have := HC30.out.size; omega)
              have HNE31 := hid (neB_next (w := w30) (v := (.slice pk es.length ck)) (v' := .slice p31 (es.length + 1) c31) HNE.out.symm (fun g h1 => (own_lt HV30.out g h1).2) hv31)
              have HNE31 := hid HNE31.out.symm
              have HB31 := hid (And.intro (HB30.out.1.chg (Chg.grown hg31) (fun h => F29.out h)) (Nat.lt_of_lt_of_le HB30.out.2 hg31.size))
              have HK31 := hid ho31
              have hsz31 : w.heap.size ≤ w31.heap.size := HC31.out.size
              clear ho31 hg31 hv31
              simp only [wpList]
              refine hK _ _ (fun _ => ⟨HG31.out, HT31.out, HU31.out⟩) ?_
              clear hK K
              refine wpPlan3_list rfl rfl rfl (fun K hK => ?_)
              refine wpList_append_rd rfl _ _ 33 rfl W0 TSt _ 1 16 Try.underlying33 infoSt rfl (by decide) _ _ _ rfl HV31.out (.slice (some ⟨b29, 0, none⟩) 1 1) 1 [.string (B u)] rfl (rd_val HB31.out.1) (by simp [Value.oneCell']) (by simp only [maxLen]; omega) (by omega) (Nat.le_trans hW HC31.out.size) ?_
              intro p32 c32 w32 ho32 hg32 hv32
              have hg32 : w31.grownBy w32 (Value.ownBlock (.slice pv es.length cv)) := ⟨hg32.os, hg32.tape, hg32.output, hg32.size, hg32.block⟩
              have hv32 : Value.ownBlock (.slice p32 (es.length + 1) c32) = Value.ownBlock (.slice pv es.length cv) ∨ Value.ownBlock (.slice p32 (es.length + 1) c32) = some w31.heap.size := hv32
              have HG32 := hid (HG31.out.chg (Chg.grown hg32) (own_blk_ne HV31.out HG31.out (by decide)))
              have HT32 := hid (HT31.out.chg (Chg.grown hg32) (own_blk_ne HV31.out HT31.out (by decide)))
              have HK32 := hid (own_chg HK31.out (Chg.grown hg32) (fun g h1 h2 => HNE31.out.symm g h2 h1))
              have HU32 := hid (show w32.cell? ⟨bv, ov + i, none⟩ = some (.string (B u)) from (World.cell?_of_block (w := w31) (a := ⟨bv, ov + i, none⟩) (hg32.block bv (World.block_lt_of_cell? _ _ HU31.out) (fun h => by rcases HPV.out bv h.symm with h2 | h2; exact absurd h2 (HNB.out.2.1); exact absurd HNB.out.2.2.2 (by omega)))).trans HU31.out)
              have HC32 := hid (HC31.out.trans (Chg.grown hg32) (fun x hx h => by rcases HPV.out x h with h2 | h2; exact .inr (.inr h2); omega))
              have HPV32 : Hid (∀ x, Value.ownBlock (.slice p32 (es.length + 1) c32) = some x → Value.ownBlock (.slice pv0 k0 cv0) = some x ∨ w.heap.size ≤ x) := hid (fun x hx => by rcases hv32 with h | h; exact HPV.out x (h ▸ hx); rw [h] at hx; injection hx with hx; have := HC31.out.size; omega)
              have HNE32 := hid (neB_next (w := w31) (v := (.slice pv es.length cv)) (v' := .slice p32 (es.length + 1) c32) HNE31.out.symm.symm (fun g h1 => (own_lt HK31.out g h1).2) hv32)
              have HV32 := hid ho32
              have hsz32 : w.heap.size ≤ w32.heap.size := HC32.out.size
              clear ho32 hg32 hv32
              simp only [wpList]
              refine hK _ _ (fun _ => ⟨HG32.out, HT32.out, HU32.out⟩) ?_
              clear hK K
              (apply wpPlan3_val; (case ho => rfl); (case hst => rfl); (case hw => rfl); (case hv => intro w' hS; go_simp; first | done | rfl); intro K hK; go_simp; refine hK _ ?_; clear hK K)
              (apply wpPlan3_val; (case ho => rfl); (case hst => rfl); (case hw => rfl); (case hv => intro w' hS; go_simp; first | done | rfl); intro K hK; go_simp; refine hK _ ?_; clear hK K)
              refine wpPlan3_list rfl rfl rfl (fun K hK => ?_)
              obtain ⟨y033, y133, y233, y333, y433, y533, y633, y733, z633, z733⟩ := wk_cells HG32.out
              refine wpList_step (fun K2 hK2 => ?_)
              go_simp
              refine hK2 _ _ ?_
              clear hK2 K2
              simp only [wpList]
              refine hK _ _ (fun h => by cases h) ?_
              clear hK K
              obtain ⟨w33, hw33⟩ : ∃ x, w32.setCell ⟨g, 6, none⟩ (.slice p31 (es.length + 1) c31) = x := ⟨_, rfl⟩
              have HG33 : Hid (Blk w33 g (wkC p fr to most mp pp np cp p31 (es.length + 1) c31 pv es.length cv) TW) := hid (by rw [← hw33]; exact HG32.out.set 6 (.slice p31 (es.length + 1) c31))
              rw [hw33]
              have hc33 : Chg (fun k => k = g) w32 w33 := by rw [← hw33]; exact Chg.setCell (fp := fun k => k = g) _ rfl _
              have HT33 := hid (HT32.out.chg hc33 (fun h => absurd h HNB.out.2.2.1))
              have HK33 := hid (own_chg HK32.out hc33 (fun x hx h => by have := own_blk_ne HK32.out HG32.out (by decide); rw [h] at hx; exact this hx))
              have HV33 := hid (own_chg HV32.out hc33 (fun x hx h => by have := own_blk_ne HV32.out HG32.out (by decide); rw [h] at hx; exact this hx))
              have HC33 := hid (HC32.out.trans hc33 (fun x hx h => .inl h))
              clear hw33 hc33 y033 y133 y233 y333 y433 y533 y633 y733 z633 z733
              (apply wpPlan3_val; (case ho => rfl); (case hst => rfl); (case hw => rfl); (case hv => intro w' hS; go_simp; first | done | rfl); intro K hK; go_simp; refine hK _ ?_; clear hK K)
              (apply wpPlan3_val; (case ho => rfl); (case hst => rfl); (case hw => rfl); (case hv => intro w' hS; go_simp; first | done | rfl); intro K hK; go_simp; refine hK _ ?_; clear hK K)
              refine wpPlan3_list rfl rfl rfl (fun K hK => ?_)
              obtain ⟨y034, y134, y234, y334, y434, y534, y634, y734, z634, z734⟩ := wk_cells HG33.out
              refine wpList_step (fun K2 hK2 => ?_)
              go_simp
              refine hK2 _ _ ?_
              clear hK2 K2
              simp only [wpList]
              refine hK _ _ (fun h => by cases h) ?_
              clear hK K
              obtain ⟨w34, hw34⟩ : ∃ x, w33.setCell ⟨g, 7, none⟩ (.slice p32 (es.length + 1) c32) = x := ⟨_, rfl⟩
              have HG34 : Hid (Blk w34 g (wkC p fr to most mp pp np cp p31 (es.length + 1) c31 p32 (es.length + 1) c32) TW) := hid (by rw [← hw34]; exact HG33.out.set 7 (.slice p32 (es.length + 1) c32))
              rw [hw34]
              have hc34 : Chg (fun k => k = g) w33 w34 := by rw [← hw34]; exact Chg.setCell (fp := fun k => k = g) _ rfl _
              have HT34 := hid (HT33.out.chg hc34 (fun h => absurd h HNB.out.2.2.1))
              have HK34 := hid (own_chg HK33.out hc34 (fun x hx h => by have := own_blk_ne HK33.out HG33.out (by decide); rw [h] at hx; exact this hx))
              have HV34 := hid (own_chg HV33.out hc34 (fun x hx h => by have := own_blk_ne HV33.out HG33.out (by decide); rw [h] at hx; exact this hx))
              have HC34 := hid (HC33.out.trans hc34 (fun x hx h => .inl h))
              clear hw34 hc34 y034 y134 y234 y334 y434 y534 y634 y734 z634 z734
              refine wpPlan3_nil ?_
              simp only [Qn]
              have HKK := hid (show w34.ownsRow W0 TSt 1 (.slice p31 (es.length + 1) c31) (es.length + 1) (tv ((es ++ [(k, u)]).map (·.1))) by rw [List.map_append, tv_app]; exact HK34.out)
              have HVV := hid (show w34.ownsRow W0 TSt 1 (.slice p32 (es.length + 1) c32) (es.length + 1) (tv ((es ++ [(k, u)]).map (·.2))) by rw [List.map_append, tv_app]; exact HV34.out)
              go_wp2_with fail
              go_roundw
              case rel => exact ⟨i + 1, es ++ [(k, u)], p31, c31, p32, c32, by first | rfl | (congr 1; omega) | (congr 1), hlt, HC34.out.size, by rw [List.length_append]; exact HLE.out, by rw [List.length_append]; show es.length + 1 ≤ _; omega, hid (by rw [HTK.out, rngM_app, HRG.out, ← List.append_assoc, ← HES.out]), by rw [List.length_append]; exact HG34, by rw [List.length_append]; exact HKK, by rw [List.length_append]; exact HVV, by rw [List.length_append]; exact HNE32, HT34, by rw [List.length_append]; exact HPK31, by rw [List.length_append]; exact HPV32, HC34⟩
              case measure => simp [intOf]; omega
        · have hm2 : (most : Int) ≤ (es.length : Int) := by omega
          have HRG := hid (show KeepP L es0 es fr to most false from keep_stop HSL.out HLI.out HES.out hle (.inl (by omega)))
          clear HRG1
          cases hto : (to == [])
          · cases hkt : ltB k to
            all_goals
              go_wp2_with fail
              go_quiet (fail)
              go_wp2_with fail
              go_ret
              exact ⟨false, es, pk, ck, pv, cv, rfl, HRG.out, HG.out, HK.out, HV.out, HNE.out, HC.out.drewR _, HPK.out, HPV.out⟩
          · go_wp2_with fail
            go_quiet (fail)
            go_wp2_with fail
            go_ret
            exact ⟨false, es, pk, ck, pv, cv, rfl, HRG.out, HG.out, HK.out, HV.out, HNE.out, HC.out.drewR _, HPK.out, HPV.out⟩
      · have HRG := hid (show rngM [(k, u)] fr to = [] by simp [rngM, inR, hfr])
        go_wp2_with fail
        go_roundw
        case rel => exact ⟨i + 1, es, pk, ck, pv, cv, by first | rfl | (congr 1; omega) | (congr 1), hlt, hsr, hle, by omega, hid (by rw [HTK.out, rngM_app, HRG.out, List.append_nil]; exact HES.out), HG, HK, HV, HNE, HT, HPK, HPV, HC⟩
        case measure => simp [intOf]; omega
    · have hlt2 : ¬ (i : Int) < (nl : Int) := by omega
      have HE2 := hid (show es = es0 ++ rngM L fr to by have := HES.out; rwa [List.take_of_length_le (by rw [HNL.out]; omega)] at this)
      have HTK := hid (show (es0 ++ rngM L fr to).take most = es by rw [← HE2.out]; exact List.take_of_length_le hle)
      by_cases hm : es.length < most
      · have hm2 : (es.length : Int) < (most : Int) := by omega
        go_wp2_with fail
        go_quiet (fail)
        go_wp2_with fail
        go_ret
        exact ⟨true, es, pk, ck, pv, cv, rfl, ⟨HTK.out.symm, fun _ => hm, fun h => (by cases h)⟩, HG.out, HK.out, HV.out, HNE.out, HC.out.drewR _, HPK.out, HPV.out⟩
      · have hm2 : ¬ (es.length : Int) < (most : Int) := by omega
        go_wp2_with fail
        go_quiet (fail)
        go_wp2_with fail
        go_ret
        exact ⟨false, es, pk, ck, pv, cv, rfl, ⟨HTK.out.symm, fun h => (by cases h), fun _ => .inl (by omega)⟩, HG.out, HK.out, HV.out, HNE.out, HC.out.drewR _, HPK.out, HPV.out⟩
end Go.Proofs.Ytdilkgcoecipjaa
