/- package pager: puts. -/
import Derived.Test.YtiphekepglihlaaPagE
import Derived.Test.YtiphekepglihlaaPagL
namespace Go.Proofs.Ytiphekepglihlaa
open Go.RowKit Go.Maps
set_option linter.unusedVariables false

/-- a pager's parts, by their names -/
structure PgU (w : World) (p d : Nat) (fp ok : Nat → Prop) (b : Nat) (D : DataW Unit) (n : Nat) (s : DS) (was now : HD) (op : Bool) (ch : Int → Option (List UInt8)) (N : Nat) : Prop where
  bs : PgB w p d fp n s was now op (.map (some b)) (fgt p)
  own : w.ownsMap Try.prog 3 pageElem b N D
  chd : Chd w D ok ch
  nb : ¬ fp b
  bp : b ≠ p
  oks : ∀ g, ok g → g ≠ b ∧ g ≠ p ∧ ¬ fp g ∧ g < w.heap.size
def blksOf (p : Nat) (fp ok : Nat → Prop) (b : Nat) : Nat → Prop := fun k => fp k ∨ k = p ∨ k = b ∨ ok k
theorem PgA.parts {w : World} {p d : Nat} {F : Nat → Prop} {n : Nat} {s : DS} {was now : HD} {op : Bool} {ch : Int → Option (List UInt8)} {N : Nat} (h : PgA w p d F n s was now op ch N) :
    ∃ fp ok b D, PgU w p d fp ok b D n s was now op ch N ∧ ∀ k, F k ↔ blksOf p fp ok b k := by
  obtain ⟨fp, ok, b, D, h1, h2, h3, h4, h5, h6, h7⟩ := h
  exact ⟨fp, ok, b, D, ⟨h1, h2, h3, h4, h5, h6⟩, h7⟩
theorem PgU.whole {w : World} {p d : Nat} {fp ok : Nat → Prop} {b : Nat} {D : DataW Unit} {n : Nat} {s : DS} {was now : HD} {op : Bool} {ch : Int → Option (List UInt8)} {N : Nat} (h : PgU w p d fp ok b D n s was now op ch N) :
    PgA w p d (blksOf p fp ok b) n s was now op ch N := ⟨fp, ok, b, D, h.bs, h.own, h.chd, h.nb, h.bp, h.oks, fun _ => Iff.rfl⟩
theorem PgU.lt {w : World} {p d : Nat} {fp ok : Nat → Prop} {b : Nat} {D : DataW Unit} {n : Nat} {s : DS} {was now : HD} {op : Bool} {ch : Int → Option (List UInt8)} {N : Nat} (h : PgU w p d fp ok b D n s was now op ch N) : ∀ k, blksOf p fp ok b k → k < w.heap.size := h.whole.lt
theorem PgU.new' {w w' : World} {p d : Nat} {fp ok : Nat → Prop} {b : Nat} {D : DataW Unit} {n : Nat} {s : DS} {was now : HD} {op : Bool} {ch : Int → Option (List UInt8)} {N : Nat} (h : PgU w p d fp ok b D n s was now op ch N) (hb : Below w.heap.size w w') :
    PgU w' p d fp ok b D n s was now op ch N := by
  have hc := Chg.new hb (fun _ => False)
  refine ⟨⟨h.bs.dsk.chg hc (fun _ _ h => h), h.bs.blk.chg hc (fun h => h), h.bs.was, h.bs.now, h.bs.out⟩, ?_, h.chd.chg hc (fun _ _ h => h), h.nb, h.bp, fun g hg => ⟨(h.oks g hg).1, (h.oks g hg).2.1, (h.oks g hg).2.2.1, Nat.lt_of_lt_of_le (h.oks g hg).2.2.2 hc.size⟩⟩
  obtain ⟨es, cl, h8, h9⟩ := h.own
  exact ⟨es, cl, hc.heap h8 (fun h => h), h9⟩

theorem mem_intKeys {w : World} {P : Program} {k : TypeId} {R : Value → Option (DataW Unit × List MemPlace)} {b n : Nat} {D : DataW Unit} (hown : w.ownsMap P k R b n D) (K : Keyed P k) (hk : P.underlying k = some (.int .i64)) :
    (intKeys D).Nodup ∧ (∀ x, x ∈ intKeys D ↔ Maps.has D (.int .i64 x) = true) ∧ (intKeys D).length ≤ n := by
  have hsz := hown.size_le
  obtain ⟨es, hD, hpw, _⟩ := hown.entries K
  obtain ⟨es', hD', hko⟩ := hown.keysOf
  obtain rfl : es = es' := by rw [hD] at hD'; simpa using hD'
  subst hD
  have hk2 : ∀ p ∈ es, ∃ x, p.1 = Lit.int .i64 x := fun p hp => by
    obtain ⟨v, hv⟩ := hko p hp
    obtain ⟨x, _, hx, _⟩ := Maps.keyOf_i64 hk hv
    exact ⟨x, hx⟩
  refine ⟨?_, fun x => ?_, ?_⟩
  · show (es.map fun p => Go.intOf p.1).Nodup
    refine List.pairwise_map.2 (hpw.imp_of_mem fun {p q} hp' hq' hne e => hne ?_)
    obtain ⟨a, ha⟩ := hk2 p hp'
    obtain ⟨b, hb⟩ := hk2 q hq'
    rw [ha, hb] at e ⊢
    exact congrArg _ e
  · rw [Maps.has_eq, List.any_eq_true]
    show x ∈ (es.map fun p => Go.intOf p.1) ↔ _
    rw [List.mem_map]
    constructor
    · rintro ⟨p, hp', rfl⟩
      obtain ⟨a, ha⟩ := hk2 p hp'
      exact ⟨p, hp', by rw [ha]; simp [Lit.sameKey, Go.intOf]⟩
    · rintro ⟨p, hp', hs⟩
      obtain ⟨a, ha⟩ := hk2 p hp'
      rw [ha] at hs
      exact ⟨p, hp', by rw [ha]; simpa [Lit.sameKey, Go.intOf] using hs⟩
  · show (es.map fun p => Go.intOf p.1).length ≤ n
    rw [List.length_map]
    exact hsz

/-- what is written at a commit -/
def chW (was now : HD) (ch : Int → Option (List UInt8)) : Int → Option (List UInt8) := if hdEq now was then ch else chP ch 0 (hdB now)
def putsOf (ch : Int → Option (List UInt8)) (ks : List Int) : List (Int × List UInt8) := ks.map fun k => (401 + k, (ch k).getD [])
theorem putsOf_length (ch : Int → Option (List UInt8)) (ks : List Int) : (putsOf ch ks).length = ks.length := by simp [putsOf]

set_option maxRecDepth 100000 in
set_option maxHeartbeats 4000000 in
theorem PgA.puts {w : World} {p d : Nat} {F : Nat → Prop} {n : Nat} {s : DS} {was now : HD} {op : Bool} {ch : Int → Option (List UInt8)} {N : Nat} (h : PgA w p d F n s was now op ch N) (ow : HdOk was) (on : HdOk now) (hN : N + 1 ≤ 1000) (hks : ∀ k l, ch k = some l → 0 ≤ k ∧ k < 3000) :
    Calls Try.prog 55 #[.pointer (some ⟨p, 0, none⟩)] w fun e w' => ∃ fp ok b D N' ks pa c, e = .returned (.slice pa ks.length c) ∧ PgU w' p d fp ok b D n s was now op (chW was now ch) N' ∧ N' ≤ N + 1 ∧ ks.Nodup ∧ (∀ k, k ∈ ks ↔ (chW was now ch k).isSome = true) ∧
      ks.length ≤ N + 1 ∧ IsPuts w' fp pa (putsOf (chW was now ch) ks) ∧ PutsOut fp pa ∧ Chg F w w' ∧ ∀ k, blksOf p fp ok b k → F k ∨ w.heap.size ≤ k := by
  have H := hid h
  have OW := hid ow
  have ON := hid on
  have KS := hid hks
  obtain ⟨fp, ok, b, D, hu, hF⟩ := h.parts
  have HB := hid hu.bs.blk
  have HD := hid (show Chg (fun _ => False) w w.drew from Chg.drewN _ _ 1)
  have HP := hid (h.lt)
  clear h ow on hks hu hF
  cases he : hdEq now was
  case' true =>
    have HE := hid he
    rw [show chW was now ch = ch by unfold chW; rw [if_pos he]]
    clear he
    go_enter Try.func55, Try.ntmps55
    go_wp2_with fail
    refine wp_region_plan (fun w' => Blk w' p (pgC (.pointer (some ⟨d, 0, none⟩)) was now op (.map (some b)) (fgt p)) 82) (fun j => true) (fun j => false)
      (.of [0, 1, 2, 3, 4, 5, 6, 7, 8]) (by kernel_rfl) (by kernel_rfl) rfl (by kernel_rfl) (by kernel_rfl) (HB.out.chg (Chg.drewN (fun _ => False) _ 1) (fun h => h)) ?_
    iterate 3 (apply wpPlan_val; (case ho => rfl); (case hst => rfl); (case hw => rfl); (case hv => intro w' hS; go_simp; first | done | rfl); intro K hK; go_simp; refine hK _ ?_; clear hK K)
    refine wpPlan_val (.agg (hdC now).toArray) rfl rfl rfl (fun w' hS => exec_load_arr 78 _ rfl _ Try.underlying78 rfl 378 hdInfo p 379 82 _ rfl hS (by rw [pgC_length OW.out.used ON.out.used]; omega) (hdC now) (pgC_now OW.out.used ON.out.used)) ?_
    intro K hK; go_simp; refine hK _ ?_; clear hK K
    iterate 3 (apply wpPlan_val; (case ho => rfl); (case hst => rfl); (case hw => rfl); (case hv => intro w' hS; go_simp; first | done | rfl); intro K hK; go_simp; refine hK _ ?_; clear hK K)
    refine wpPlan_val (.agg (hdC was).toArray) rfl rfl rfl (fun w' hS => exec_load_arr 78 _ rfl _ Try.underlying78 rfl 378 hdInfo p 1 82 _ rfl hS (by rw [pgC_length OW.out.used ON.out.used]; omega) (hdC was) (pgC_was OW.out.used)) ?_
    intro K hK; go_simp; refine hK _ ?_; clear hK K
    refine wpPlan_val (.bool (!hdEq now was)) rfl rfl rfl (fun w' hS => exec_hd_neq ON.out OW.out _ _ rfl rfl rfl) ?_
    intro K hK; rw [HE.out]; go_simp; refine hK _ ?_; clear hK K
    refine wpPlan_nil ?_
    simp only [Qn]
    generalize w.drew = w2 at *
    obtain ⟨fp2, ok2, b2, D2, hu2, hF2⟩ := (H.out.chg HD.out (fun _ _ h => h)).parts
    have HU := hid (show PgU w2 p d fp2 ok2 b2 D2 n s was now op ch N from hu2)
    have HC2 : Hid (Chg F w w2) := hid (HD.out.mono (fun _ _ h => h.elim))
    have HF2 : Hid (∀ k, blksOf p fp2 ok2 b2 k → F k ∨ w.heap.size ≤ k) := hid (fun k hk => .inl ((hF2 k).2 hk))
    clear hu2 hF2 HB HD
    have c25 := (pg_cells HU.out.bs.blk OW.out.used ON.out.used).2.2.1
    generalize hch : ch = cw at *
    have CW := hid hch
    clear hch
    have KS2 : Hid (∀ k l, cw k = some l → 0 ≤ k ∧ k < 3000) := hid KS.out
    have HNW : Hid (N ≤ 1000) := hid (by omega)
    obtain ⟨Nw, hNw⟩ : ∃ Nw, Nw = N := ⟨_, rfl⟩
    rw [← hNw] at HU HNW
    have HN2 : Hid (Nw ≤ N + 1) := hid (by omega)
    clear hNw
  case' false =>
    have HE := hid he
    rw [show chW was now ch = chP ch 0 (hdB now) by unfold chW; rw [if_neg (by rw [he]; simp)]]
    clear he
    go_enter Try.func55, Try.ntmps55
    go_wp2_with fail
    refine wp_region_plan (fun w' => Blk w' p (pgC (.pointer (some ⟨d, 0, none⟩)) was now op (.map (some b)) (fgt p)) 82) (fun j => true) (fun j => false)
      (.of [0, 1, 2, 3, 4, 5, 6, 7, 8]) (by kernel_rfl) (by kernel_rfl) rfl (by kernel_rfl) (by kernel_rfl) (HB.out.chg (Chg.drewN (fun _ => False) _ 1) (fun h => h)) ?_
    iterate 3 (apply wpPlan_val; (case ho => rfl); (case hst => rfl); (case hw => rfl); (case hv => intro w' hS; go_simp; first | done | rfl); intro K hK; go_simp; refine hK _ ?_; clear hK K)
    refine wpPlan_val (.agg (hdC now).toArray) rfl rfl rfl (fun w' hS => exec_load_arr 78 _ rfl _ Try.underlying78 rfl 378 hdInfo p 379 82 _ rfl hS (by rw [pgC_length OW.out.used ON.out.used]; omega) (hdC now) (pgC_now OW.out.used ON.out.used)) ?_
    intro K hK; go_simp; refine hK _ ?_; clear hK K
    iterate 3 (apply wpPlan_val; (case ho => rfl); (case hst => rfl); (case hw => rfl); (case hv => intro w' hS; go_simp; first | done | rfl); intro K hK; go_simp; refine hK _ ?_; clear hK K)
    refine wpPlan_val (.agg (hdC was).toArray) rfl rfl rfl (fun w' hS => exec_load_arr 78 _ rfl _ Try.underlying78 rfl 378 hdInfo p 1 82 _ rfl hS (by rw [pgC_length OW.out.used ON.out.used]; omega) (hdC was) (pgC_was OW.out.used)) ?_
    intro K hK; go_simp; refine hK _ ?_; clear hK K
    refine wpPlan_val (.bool (!hdEq now was)) rfl rfl rfl (fun w' hS => exec_hd_neq ON.out OW.out _ _ rfl rfl rfl) ?_
    intro K hK; rw [HE.out]; go_simp; refine hK _ ?_; clear hK K
    refine wpPlan_nil ?_
    simp only [Qn]
    generalize w.drew = w1 at *
    have H1 := hid (H.out.chg HD.out (fun _ _ h => h))
    have B1 := hid (HB.out.chg HD.out (fun h => h))
    go_wp2_with (first
      | (refine wpList_load_arr rfl 78 _ rfl _ Try.underlying78 rfl 378 hdInfo p 379 82 _ rfl B1.out (by rw [pgC_length OW.out.used ON.out.used]; omega) (hdC now) (pgC_now OW.out.used ON.out.used) ?_))
    refine (bytes_any w1 now ON.out.used).mono ?_
    rintro e2 w3 ⟨p3, n3, c3, rfl, hn3, hb3, ho3⟩
    have hn3' : n3 = 399 := hn3.trans (hdB_length ON.out.used)
    subst hn3'
    have HV3 := hid (show Bs w3 (.slice p3 399 c3) (hdB now) from by unfold Bs; rw [hdB_length ON.out.used]; exact Rd.of_own ho3)
    have H3 := hid (H1.out.chg (Chg.new hb3 (fun _ => False)) (fun _ _ h => h))
    have C3 := hid ((HD.out.mono (fun _ _ h => h.elim) : Chg F w w1).trans (Chg.new hb3 F) (fun _ _ h => h))
    clear hb3 ho3 hn3 HD H1 B1 HB
    go_wp2_with fail
    refine (H3.out.write 0 _ (hdB now) (by omega) HV3.out (by rw [hdB_length ON.out.used]; omega) (by decide)).mono ?_
    rintro e3 w2 ⟨rfl, hc2, F2, h2, hF2'⟩
    obtain ⟨fp2, ok2, b2, D2, hu2, hF2⟩ := h2.parts
    have HU := hid (show PgU w2 p d fp2 ok2 b2 D2 n s was now op (chP ch 0 (hdB now)) (N + 1) from hu2)
    have HC2 : Hid (Chg F w w2) := hid (C3.out.trans hc2 (fun _ _ h => h))
    have HF2 : Hid (∀ k, blksOf p fp2 ok2 b2 k → F k ∨ w.heap.size ≤ k) := hid (fun k hk => (hF2' k ((hF2 k).2 hk)).imp id (fun h => Nat.le_trans C3.out.size h))
    clear hu2 hF2 hc2 h2 hF2' C3 H3 HV3
    have c25 := (pg_cells HU.out.bs.blk OW.out.used ON.out.used).2.2.1
    have KS2 : Hid (∀ k l, chP ch 0 (hdB now) k = some l → 0 ≤ k ∧ k < 3000) := hid (fun k l hk => by
      unfold chP at hk
      by_cases e : k = 0
      · omega
      · rw [if_neg e] at hk; exact KS.out k l hk)
    generalize hch : chP ch 0 (hdB now) = cw at *
    have CW := hid hch
    clear hch
    have HNW : Hid (N + 1 ≤ 1000) := hid (by omega)
    obtain ⟨Nw, hNw⟩ : ∃ Nw, Nw = N + 1 := ⟨_, rfl⟩
    rw [← hNw] at HU HNW
    have HN2 : Hid (Nw ≤ N + 1) := hid (by omega)
    clear hNw
  all_goals
    clear HE KS
    go_wp2_with fail
    refine (Try.keys_any (some b2) w2).mono ?_
    rintro e4 w4 ⟨rfl, hw4⟩
    subst hw4
    have HSZ := HU.out.own.size_le
    have SO := hid (Try.sorted_any b2 Nw D2 pageElem w2 HU.out.own (by simp only [maxLen]; have := HNW.out; omega) (by have := HNW.out; omega))
    have MK := mem_intKeys HU.out.own mapKeyed Try.underlying3
    go_wp2_with fail
    refine SO.out.mono ?_
    rintro e5 w5 ⟨v, ss, rfl, hperm, hrow, hb5⟩
    obtain ⟨sp, sc, rfl⟩ := own_shape hrow
    have hp2 := (List.mergeSort_perm ss (fun x y => decide (x ≤ y))).trans hperm
    have hks : ∃ ks : List Int, ks.length = ss.length ∧ ks.Nodup ∧ (∀ k, k ∈ ks ↔ (cw k).isSome = true) ∧ ks.length ≤ Nw ∧ w5.ownsRow w2.heap.size 3 1 (.slice sp ks.length sc) ks.length (ks.map encZ) := by
      refine ⟨_, List.length_mergeSort _, hp2.nodup_iff.2 MK.1, fun k => ?_, ?_, ?_⟩
      · rw [hp2.mem_iff, MK.2.1]
        have h9 := HU.out.chd k
        rcases e : cw k with _ | l
        · rw [e] at h9
          simp only at h9
          rw [h9]
          simp
        · rw [e] at h9
          simp only at h9
          rw [h9.1]
          simp
      · rw [hp2.length_eq]; exact MK.2.2
      · rw [List.length_mergeSort]; exact hrow
    obtain ⟨ks, hlen, hnd, hmem, hkl, hown⟩ := hks
    rw [← hlen]
    have hk1000 : ks.length ≤ 1000 := Nat.le_trans hkl HNW.out
    have ND := hid hnd
    have MEM := hid hmem
    have ROW := hid (Rd.of_own hown)
    have HU5 := hid (HU.out.new' hb5)
    have HC5 := hid (HC2.out.trans (Chg.new hb5 F) (fun _ _ h => h))
    have HF5 := hid HF2.out
    have S25 := hid hb5.size
    have LT5 := hid HU5.out.lt
    clear hp2 hperm hrow hown hlen hnd hmem SO MK HU hb5 HSZ
    have PA0 : Hid (PutsAt w5.heap.size ok2 ((putsOf cw ks).take 0) [] w5 w5 (.slice none 0 0)) := hid (PutsAt.start (Below.refl _ _) (Nat.le_refl _))
    have hpl := putsOf_length cw ks
    have HPL := hid hpl
    clear hpl
    go_wp2_with fail
    go_loopw [3, 29] (fun v i wr => ∃ (j : Nat) (bs : List Value), j ≤ ks.length ∧ i = .int .i64 j ∧ PutsAt w5.heap.size ok2 ((putsOf cw ks).take j) bs w5 wr v) (fun _ i _ => ks.length + 1 - (Go.RowKit.intOf i).toNat)
    case atStart => exact ⟨0, [], Nat.zero_le _, rfl, PA0.out⟩
    case round =>
      obtain ⟨j, bs, hj, rfl, hat⟩ := hrel
      have PA := hid hat
      have hj1 : ((putsOf cw ks).take j).length = j := by rw [List.length_take, HPL.out]; omega
      obtain ⟨lp, lc, hsh⟩ := hat.shape
      rw [hj1] at hsh
      subst hsh
      have HJ1 := hid hj1
      clear hat PA0 hj1
      by_cases hlt : j < ks.length
      · obtain ⟨k, hk⟩ : ∃ k, ks[j]? = some k := ⟨_, List.getElem?_eq_getElem hlt⟩
        obtain ⟨l, hl⟩ := Option.isSome_iff_exists.1 ((MEM.out k).1 (List.mem_of_getElem? hk))
        have HB5 := hid PA.out.2.2.2.1
        obtain ⟨gb, goff, hgp, gcell⟩ := Rd.addr ROW.out (by omega)
        subst hgp
        have hgc5 := gcell j (.int .i64 k) (by rw [List.getElem?_map, hk]; rfl)
        have hgc : wr.cell? ⟨gb, goff + j, none⟩ = some (.int .i64 k) := (HB5.out.cell (p := ⟨gb, goff + j, none⟩) (World.block_lt_of_cell? w5 ⟨gb, goff + j, none⟩ hgc5)).trans hgc5
        have HUr := HU5.out.new' HB5.out
        have hkb := KS2.out k l hl
        have hwf : (Lit.int .i64 k).wf = true := wf_small hkb.1 (by omega)
        have c25r := (pg_cells HUr.bs.blk OW.out.used ON.out.used).2.2.1
        obtain ⟨v9, ps9, hrun, hv9⟩ := HUr.own.lookup mapKeyed Try.underlying80 (pageZero _) pageElem_nil (keyOf_int_mk Try.underlying3 hwf)
        have hcd := HUr.chd k
        rw [hl] at hcd
        obtain ⟨q1, g, q2, q3, q4, q5⟩ := hcd
        rw [q2] at hv9
        obtain ⟨g9, rfl, hg9⟩ : ∃ g' : Nat, v9 = .slice (some ⟨g', 0, none⟩) 504 504 ∧ g' = g := by
          rcases pageElem_inv hv9 with ⟨g', h1, h2⟩ | ⟨_, h2⟩
          · exact ⟨g', h1, by injection h2 with h2; injection h2 with _ h2; omega⟩
          · cases h2
        subst hg9
        have PG := hid (show Bs wr (.slice (some ⟨g9, 0, none⟩) 504 504) (401 + k, l).2 from Bs.blk q3 q4.symm (by simp [maxLen]))
        have hg5 := (HU5.out.oks g9 q5).2.2.2
        have HG : Hid (0 < (401 + k, l).2.length → ∀ g, Value.ownBlock (.slice (some ⟨g9, 0, none⟩) 504 504) = some g → ok2 g ∧ Value.ownBlock (.slice lp j lc) ≠ some g) := hid (fun _ g hg => by
          have hg : g = g9 := by
            simp [Value.ownBlock] at hg
            exact hg.symm
          subst hg
          refine ⟨q5, fun h3 => ?_⟩
          have := (PA.out.1.lt g h3).1
          omega)
        have TK : Hid ((putsOf cw ks).take (j + 1) = (putsOf cw ks).take j ++ [(401 + k, l)]) := hid (by
          rw [List.take_add_one]
          congr 1
          unfold putsOf
          rw [List.getElem?_map, hk]
          simp [hl])
        have hw401 : IntKind.i64.wrap (401 + k) = 401 + k := i64_small (by omega) (by omega)
        clear gcell hgc5 HUr q1 q2 q3 q4 q5 hv9 hk hl hg5
        go_wp2_with (at_builtin; refine wp_keep ?_)
        refine hid ?_
        refine wpList_append_put (q := (401 + k, l)) PA.out (Below.refl _ _) PG.out HG.out rfl _ _ rfl rfl rfl rfl (by rw [HJ1.out]; omega) ?_
        intro lp2 lc2 w7 hp7
        rw [HJ1.out, ← TK.out] at hp7
        rw [HJ1.out]
        have PA7 := hid hp7
        clear hp7
        go_wp2_with fail
        go_roundw
        case rel => exact ⟨j + 1, _, Nat.succ_le_of_lt hlt, by go_num, PA7.out⟩
        case measure =>
          show ks.length + 1 - ((j : Int) + 1).toNat < ks.length + 1 - ((j : Int)).toNat
          have hlt' : j < ks.length := hlt
          omega
      · have hjk : ks.length = j := by omega
        subst hjk
        rw [List.take_of_length_le (by rw [HPL.out]; exact Nat.le_refl _)] at PA
        go_wp2_with fail
        go_ret
        rw [CW.out]
        have hz : ks.length = (putsOf cw ks).length := HPL.out.symm
        have hP := PA.out
        have hb := hP.2.2.2.1
        have hp9 := PutsAt.puts2 (fp := fp2) hP (fun g hg => (HU5.out.oks g hg).2.2.1) (fun k hk => .inl (HU5.out.bs.dsk.lt k hk))
        exact ⟨fp2, ok2, b2, D2, Nw, ks, lp, lc, rfl, HU5.out.new' hb, HN2.out, ND.out, MEM.out, Nat.le_trans hkl HN2.out, hp9.1, hp9.2, HC5.out.trans (Chg.new hb F) (fun _ _ h => h), HF5.out⟩
end Go.Proofs.Ytiphekepglihlaa
