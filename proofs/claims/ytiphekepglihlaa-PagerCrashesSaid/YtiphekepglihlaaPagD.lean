/- package pager: Commit. -/
import Derived.Test.YtiphekepglihlaaPagC
import Derived.Defers
namespace Go.Proofs.Ytiphekepglihlaa
open Go.RowKit Go.Maps
set_option linter.unusedVariables false

def comP (n : Nat) (s : DS) (was now : HD) (ls : List (Int × List UInt8)) : Int × DS × HD :=
  if ls.length = 0 then (0, s, was) else if 400 < ls.length then (4, s, was) else ((cmt n s ls).2, (cmt n s ls).1, if (cmt n s ls).2 = 0 then now else was)

/-- the closure that a commit defers -/
theorem shut_any (w : World) (bx p : Nat) (d m : Value) (was now : HD) (op : Bool) (u : FrameMode) (hx : w.cell? ⟨bx, 0, none⟩ = some (.pointer (some ⟨p, 0, none⟩))) (h : Blk w p (pgC d was now op m (fgt p)) 82) (h1 : was.used.length = 375) (h2 : now.used.length = 375) :
    CallsD Try.prog 54 #[.pointer (some ⟨bx, 0, none⟩)] u w fun e u' w' => u' = u ∧ (e = .returned (.tuple #[]) ∧ Chg (fun k => k = p) w w' ∧ Blk w' p (pgC d was was false (.map (some w.heap.size)) (fgt p)) 82 ∧ w'.heap[w.heap.size]? = some (.map #[] 0)) := by
  obtain ⟨c0, c1, c2, c3, f0, f1, f2, f3⟩ := pg_cells h h1 h2
  have FA := hid (forget_any w p _ _ _ was now op h h1 h2)
  unfold fgt at c3
  clear c0 c1 c2 f0 f1 f2 f3 h
  go_enter_d Try.func54, Try.ntmps54
  go_wp2_with fail
  refine FA.out.mono ?_
  rintro e1 w1 ⟨rfl, hc, hb, hm⟩
  have C := hid hc
  have B := hid hb
  have M := hid hm
  clear hc hb hm
  go_wp2_with fail
  go_end0
  exact ⟨rfl, C.out, B.out, M.out⟩
theorem PgA.made {w : World} {p d m : Nat} {fp : Nat → Prop} {n : Nat} {s : DS} {was : HD} (hd : Dsk w d fp n s) (hb : Blk w p (pgC (.pointer (some ⟨d, 0, none⟩)) was was false (.map (some m)) (fgt p)) 82) (hm : w.heap[m]? = some (.map #[] 0)) (hu : was.used.length = 375) (n1 : ¬ fp p) (n2 : ¬ fp m) (n3 : m ≠ p) :
    PgA w p d (fun k => fp k ∨ k = p ∨ k = m ∨ False) n s was was false (fun _ => none) 0 :=
  ⟨fp, fun _ => False, m, .map [], ⟨hd, hb, hu, hu, n1⟩, ⟨#[], 0, hm, ⟨by simp, Go.MapKept.stamped_empty 0, by simp⟩, Nat.le_refl _, rfl⟩, Chd.nil _ _, n2, n3, fun g hg => hg.elim, fun k => Iff.rfl⟩

set_option maxRecDepth 100000 in
set_option maxHeartbeats 4000000 in
theorem PgA.commit {w : World} {p d : Nat} {F : Nat → Prop} {n : Nat} {s : DS} {was now : HD} {ch : Int → Option (List UInt8)} {N : Nat} (h : PgA w p d F n s was now true ch N) (ow : HdOk was) (on : HdOk now) (hN : N + 1 ≤ 1000) (hks : ∀ k l, ch k = some l → 0 ≤ k ∧ k < 3000) (ho : s.ops + 3000 ≤ 1000000) :
    Calls Try.prog 24 #[.pointer (some ⟨p, 0, none⟩)] w fun e w' => ∃ (ks : List Int) (F' : Nat → Prop), ks.length ≤ N + 1 ∧ ks.Nodup ∧ (∀ k, k ∈ ks ↔ (chW was now ch k).isSome = true) ∧ e = .returned (.int .i64 (comP n s was now (putsOf (chW was now ch) ks)).1) ∧
      PgA w' p d F' n (comP n s was now (putsOf (chW was now ch) ks)).2.1 (comP n s was now (putsOf (chW was now ch) ks)).2.2 (comP n s was now (putsOf (chW was now ch) ks)).2.2 false (fun _ => none) 0 ∧ Chg F w w' ∧ ∀ k, F' k → F k ∨ w.heap.size ≤ k := by
  have H := hid h
  have OW := hid ow
  have ON := hid on
  have KS := hid hks
  have hp := h.lt p h.own.1
  obtain ⟨c1, c379, c380, c381, g379, g380, g381⟩ := h.cells
  have hmf : ∀ (fn : Fn) (first cap : Array Value) (w : World), (Instr.makeFunc fn first cap).run Try.prog w = .ok (.func fn first cap) w := fun fn first cap w => by simp [Instr.makeFunc]
  have hbx : (w.alloc (Obj.cells #[Value.pointer (some ⟨p, 0, none⟩)] 30)).cell? ⟨w.heap.size, 0, none⟩ = some (.pointer (some ⟨p, 0, none⟩)) := by simp
  have BA := hid (show Below w.heap.size w (w.alloc (Obj.cells #[Value.pointer (some ⟨p, 0, none⟩)] 30)) from (Below.refl _ _).alloc (Nat.le_refl _) _)
  have HSZ := hid (show w.heap.size < (w.alloc (Obj.cells #[Value.pointer (some ⟨p, 0, none⟩)] 30)).heap.size by simp)
  clear h ow on hks c379 c380 c381 g379 g380 g381
  go_enter_defers Try.func24, Try.ntmps24
  go_wp2_with fail
  have H0 := hid (H.out.chg (Chg.new BA.out (fun _ => False)) (fun _ _ h => h))
  generalize w.alloc (Obj.cells #[Value.pointer (some ⟨p, 0, none⟩)] 30) = w0 at *
  refine (H0.out.puts OW.out ON.out hN KS.out).mono ?_
  rintro e1 w1 ⟨fp, ok, b, D, N', ks, pa, c, rfl, hu, hN', hnd, hmem, hlen, hip, hpo, hc1, hF1⟩
  have HLT := hid H.out.lt
  have hb1 : w1.cell? ⟨w.heap.size, 0, none⟩ = some (.pointer (some ⟨p, 0, none⟩)) := by
    have h1 := hc1.block w.heap.size HSZ.out (fun hk => by have := HLT.out _ hk; omega)
    unfold World.cell? at hbx ⊢
    rw [h1]
    exact hbx
  have HU := hid hu
  have ND := hid hnd
  have MEM := hid hmem
  have IP := hid hip
  have PO := hid hpo
  have C1 := hid ((Chg.new BA.out F).trans hc1 (fun _ _ h => h))
  have F1 : Hid (∀ k, blksOf p fp ok b k → F k ∨ w.heap.size < k) := hid (fun k hk => (hF1 k hk).imp id (fun h => Nat.lt_of_lt_of_le HSZ.out h))
  have QB : Hid (∀ q ∈ putsOf (chW was now ch) ks, 401 ≤ q.1 ∧ q.1 < 3401 ∧ q.2.length = 504) := hid (fun q hq => by
    obtain ⟨k, hk, rfl⟩ := List.mem_map.1 hq
    obtain ⟨l, hl⟩ := Option.isSome_iff_exists.1 ((hmem k).1 hk)
    have h1 := hu.whole.len.1 k l hl
    have h2 : 0 ≤ k ∧ k < 3000 := by
      unfold chW at hl
      split at hl
      · exact KS.out k l hl
      · unfold chP at hl
        by_cases e : k = 0
        · omega
        · rw [if_neg e] at hl; exact KS.out k l hl
    refine ⟨by show 401 ≤ 401 + k; omega, by show 401 + k < 3401; omega, ?_⟩
    show ((chW was now ch k).getD []).length = 504
    rw [hl]
    exact h1)
  have hs1 := hc1.size
  clear hu hN' hnd hmem hip hpo hc1 hF1 hbx c1
  have hpl := putsOf_length (chW was now ch) ks
  have HPL := hid hpl
  generalize hlsE : putsOf (chW was now ch) ks = ls at *
  have LSE := hid hlsE
  clear hpl hlsE
  rw [← HPL.out]
  obtain ⟨c0, _, _, c3, _, _, _, _⟩ := pg_cells HU.out.bs.blk OW.out.used ON.out.used
  by_cases z0 : ls.length = 0
  · go_wp2_with fail
    refine leaves_cons (f := 54) (args := #[.pointer (some ⟨w.heap.size, 0, none⟩)]) (by simp) (by simp [go_sem]) ?_
    refine (shut_any w1 w.heap.size p _ _ was now true .returning hb1 HU.out.bs.blk OW.out.used ON.out.used).mono ?_
    rintro e2 u2 w2 ⟨rfl, rfl, hc2, hb2, hm2⟩
    refine ⟨_, results_tmp rfl _ _ _, ?_⟩
    have hcp : comP n s was now ls = (0, s, was) := if_pos z0
    have hlt1 := HU.out.bs.dsk.lt
    have hpl := HU.out.bs.blk.lt
    refine ⟨ks, fun k => fp k ∨ k = p ∨ k = w1.heap.size ∨ False, hlen, ND.out, MEM.out, ?_, ?_, C1.out.trans hc2 (fun k hk e => e ▸ H.out.own.1), ?_⟩
    · rw [LSE.out, hcp]; rfl
    · rw [LSE.out, hcp]; exact PgA.made (HU.out.bs.dsk.chg hc2 (fun k hk e => HU.out.bs.out (e ▸ hk))) hb2 hm2 OW.out.used HU.out.bs.out (fun h => Nat.lt_irrefl _ (hlt1 _ h)) (by omega)
    rintro k (hk | rfl | rfl | hk)
    · exact (F1.out k (.inl hk)).imp id Nat.le_of_lt
    · exact .inl H.out.own.1
    · exact .inr (Nat.le_trans C1.out.size (Nat.le_refl _))
    · exact hk.elim
  · by_cases z4 : 400 < ls.length
    · go_wp2_with fail
      refine leaves_cons (f := 54) (args := #[.pointer (some ⟨w.heap.size, 0, none⟩)]) (by simp) (by simp [go_sem]) ?_
      refine (shut_any w1 w.heap.size p _ _ was now true .returning hb1 HU.out.bs.blk OW.out.used ON.out.used).mono ?_
      rintro e2 u2 w2 ⟨rfl, rfl, hc2, hb2, hm2⟩
      refine ⟨_, results_tmp rfl _ _ _, ?_⟩
      have hcp : comP n s was now ls = (4, s, was) := (if_neg z0).trans (if_pos z4)
      have hlt1 := HU.out.bs.dsk.lt
      have hpl := HU.out.bs.blk.lt
      refine ⟨ks, fun k => fp k ∨ k = p ∨ k = w1.heap.size ∨ False, hlen, ND.out, MEM.out, ?_, ?_, C1.out.trans hc2 (fun k hk e => e ▸ H.out.own.1), ?_⟩
      · rw [LSE.out, hcp]; rfl
      · rw [LSE.out, hcp]; exact PgA.made (HU.out.bs.dsk.chg hc2 (fun k hk e => HU.out.bs.out (e ▸ hk))) hb2 hm2 OW.out.used HU.out.bs.out (fun h => Nat.lt_irrefl _ (hlt1 _ h)) (by omega)
      rintro k (hk | rfl | rfl | hk)
      · exact (F1.out k (.inl hk)).imp id Nat.le_of_lt
      · exact .inl H.out.own.1
      · exact .inr (Nat.le_trans C1.out.size (Nat.le_refl _))
      · exact hk.elim
    · have hcp : comP n s was now ls = ((cmt n s ls).2, (cmt n s ls).1, if (cmt n s ls).2 = 0 then now else was) := (if_neg z0).trans (if_neg z4)
      have HCP := hid hcp
      clear hcp
      go_wp2_with fail
      refine (com_any w1 d fp n s pa c ls HU.out.bs.dsk IP.out (fun _ => PO.out) (by omega) (fun q hq => by rw [(QB.out q hq).2.2]; omega) (fun q hq => wf_small (by have := QB.out q hq; omega) (by have := QB.out q hq; omega)) ho).mono ?_
      rintro e2 w2 ⟨rfl, fp2, hd2, hc2, hf2⟩
      have hnb : ¬ fp w.heap.size := fun h => by
        rcases F1.out _ (.inl h) with h1 | h1
        · have := HLT.out _ h1; omega
        · omega
      have hb2 : w2.cell? ⟨w.heap.size, 0, none⟩ = some (.pointer (some ⟨p, 0, none⟩)) := by
        have h1 := hc2.block w.heap.size (by have := HSZ.out; omega) hnb
        unfold World.cell? at hb1 ⊢
        rw [h1]
        exact hb1
      have P2 := hid (HU.out.bs.blk.chg hc2 HU.out.bs.out)
      have hp1 := HU.out.bs.blk.lt
      have hnp2 : Hid (¬ fp2 p) := hid (fun h => (hf2 p h).elim HU.out.bs.out (fun h => by omega))
      have D2 := hid hd2
      have C2 := hid (C1.out.trans (hc2.mono (fun k hk hk2 => (Or.inl hk2 : fp k ∨ w.heap.size < k)) : Chg (fun k => fp k ∨ w.heap.size < k) w1 w2) (fun k hk h => h.elim (fun h => (F1.out k (.inl h)).resolve_right (by omega)) (fun h => by omega)))
      have HF2 : Hid (∀ k, fp2 k → F k ∨ w.heap.size ≤ k) := hid (fun k hk => (hf2 k hk).elim (fun h => (F1.out k (.inl h)).imp id Nat.le_of_lt) (fun h => .inr (Nat.le_trans C1.out.size h)))
      obtain ⟨c0, _, _, c3, _, _, _, _⟩ := pg_cells P2.out OW.out.used ON.out.used
      clear hd2 hc2 hf2 hb1
      by_cases hz : (cmt n s ls).2 = 0
      · rw [if_pos hz] at HCP
        have HZ := hid hz
        rw [hz]
        clear hz c0 c3
        go_wp2_with fail
        have hbd : Hid (∀ m, (w2.drewN m).cell? ⟨w.heap.size, 0, none⟩ = some (.pointer (some ⟨p, 0, none⟩))) := hid (fun m => hb2)
        refine wp_region_plan (fun w' => Blk w' p (pgC (.pointer (some ⟨d, 0, none⟩)) was now true (.map (some b)) (fgt p)) 82 ∧ w'.cell? ⟨w.heap.size, 0, none⟩ = some (.pointer (some ⟨p, 0, none⟩))) (fun j => !([7].contains j)) (fun j => [7].contains j)
          (.of [0, 1, 2, 3, 4, 5, 6, 7]) (by kernel_rfl) (by kernel_rfl) rfl (by kernel_rfl) (by kernel_rfl) ⟨P2.out.chg (Chg.drewN (fun _ => False) _ 1) (fun h => h), hbd.out 1⟩ ?_
        iterate 4 (apply wpPlan_val; (case ho => rfl); (case hst => rfl); (case hw => rfl); (case hv => intro w' hS; obtain ⟨_, hS⟩ := hS; go_simp; first | done | rfl); intro K hK; go_simp; refine hK _ ?_; clear hK K)
        refine wpPlan_val (.agg (hdC now).toArray) rfl rfl rfl (fun w' hS => exec_load_arr 78 _ rfl _ Try.underlying78 rfl 378 hdInfo p 379 82 _ rfl hS.1 (by rw [pgC_length OW.out.used ON.out.used]; omega) (hdC now) (pgC_now OW.out.used ON.out.used)) ?_
        intro K hK; go_simp; refine hK _ ?_; clear hK K
        iterate 2 (apply wpPlan_val; (case ho => rfl); (case hst => rfl); (case hw => rfl); (case hv => intro w' hS; obtain ⟨_, hS⟩ := hS; go_simp; first | done | rfl); intro K hK; go_simp; refine hK _ ?_; clear hK K)
        refine wpPlan_list rfl rfl rfl (fun K hK => ?_)
        refine wpList_store_arr rfl 78 _ _ rfl 378 hdInfo p 1 82 _ (hdC now) rfl rfl (P2.out.chg (Chg.drewN (fun _ => False) _ 1) (fun h => h)) (hdC_length ON.out.used) (by rw [pgC_length OW.out.used ON.out.used]; omega) (hdC_one _) ?_
        intro w3 hw3 hc3 hs3
        rw [pgC_setWas OW.out.used ON.out.used] at hw3
        have P3 := hid hw3
        have C3 : Hid (Chg (fun k => k = p) w2 w3) := hid ((Chg.drewN (fun k => k = p) w2 1).trans hc3 (fun _ _ h => h))
        have hb3 : w3.cell? ⟨w.heap.size, 0, none⟩ = some (.pointer (some ⟨p, 0, none⟩)) := by
          have h1 := C3.out.block w.heap.size (World.block_lt_of_cell? w2 ⟨w.heap.size, 0, none⟩ hb2) (by omega)
          unfold World.cell? at hb2 ⊢
          rw [h1]
          exact hb2
        clear hw3 hc3
        simp only [wpList]
        refine hK _ _ (fun h => by cases h) ?_
        clear hK K
        refine wpPlan_nil ?_
        simp only [Qn]
        go_wp2_with fail
        refine leaves_cons (f := 54) (args := #[.pointer (some ⟨w.heap.size, 0, none⟩)]) (by simp) (by simp [go_sem]) ?_
        refine (shut_any w3 w.heap.size p _ _ now now true .returning hb3 P3.out ON.out.used ON.out.used).mono ?_
        rintro e3 u3 w4 ⟨rfl, rfl, hc4, hb4, hm4⟩
        refine ⟨_, results_tmp rfl _ _ _, ?_⟩
        have D3 := D2.out.chg C3.out (fun k hk e => hnp2.out (e ▸ hk))
        have hlt2 := D3.lt
        have hpl := P3.out.lt
        have hc23 := C2.out.trans C3.out (fun k hk e => e ▸ H.out.own.1)
        refine ⟨ks, fun k => fp2 k ∨ k = p ∨ k = w3.heap.size ∨ False, hlen, ND.out, MEM.out, ?_, ?_, hc23.trans hc4 (fun k hk e => e ▸ H.out.own.1), ?_⟩
        · rw [LSE.out, HCP.out, HZ.out]; rfl
        · rw [LSE.out, HCP.out]; exact PgA.made (D3.chg hc4 (fun k hk e => hnp2.out (e ▸ hk))) hb4 hm4 ON.out.used hnp2.out (fun h => Nat.lt_irrefl _ (hlt2 _ h)) (by omega)
        rintro k (hk | rfl | rfl | hk)
        · exact HF2.out k hk
        · exact .inl H.out.own.1
        · exact .inr (Nat.le_trans hc23.size (Nat.le_refl _))
        · exact hk.elim
      · rw [if_neg hz] at HCP
        have HZ := hid hz
        have hzb : ((cmt n s ls).2 == 0) = false := by simpa using hz
        clear hz c0 c3
        go_wp2_with fail
        refine leaves_cons (f := 54) (args := #[.pointer (some ⟨w.heap.size, 0, none⟩)]) (by simp) (by simp [go_sem]) ?_
        refine (shut_any w2 w.heap.size p _ _ was now true .returning hb2 P2.out OW.out.used ON.out.used).mono ?_
        rintro e3 u3 w3 ⟨rfl, rfl, hc3, hb3, hm3⟩
        refine ⟨_, results_tmp rfl _ _ _, ?_⟩
        have hlt2 := D2.out.lt
        have hpl := P2.out.lt
        refine ⟨ks, fun k => fp2 k ∨ k = p ∨ k = w2.heap.size ∨ False, hlen, ND.out, MEM.out, ?_, ?_, C2.out.trans hc3 (fun k hk e => e ▸ H.out.own.1), ?_⟩
        · rw [LSE.out, HCP.out]; rfl
        · rw [LSE.out, HCP.out]; exact PgA.made (D2.out.chg hc3 (fun k hk e => hnp2.out (e ▸ hk))) hb3 hm3 OW.out.used hnp2.out (fun h => Nat.lt_irrefl _ (hlt2 _ h)) (by omega)
        rintro k (hk | rfl | rfl | hk)
        · exact HF2.out k hk
        · exact .inl H.out.own.1
        · exact .inr (Nat.le_trans C2.out.size (Nat.le_refl _))
        · exact hk.elim
end Go.Proofs.Ytiphekepglihlaa
