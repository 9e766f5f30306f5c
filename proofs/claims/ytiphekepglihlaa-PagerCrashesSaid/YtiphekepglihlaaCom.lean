/- redo.Commit: pages are written behind a log. -/
import Derived.Test.YtiphekepglihlaaChk
import Derived.Lib.SlBytesConst
namespace Go.Proofs.Ytiphekepglihlaa
open Go.RowKit
set_option linter.unusedVariables false

/-- the steps that were made so far, and the values that are them -/
def FinXs (W : Nat) (d : Nat) (fp : Nat → Prop) (sts : List Stp) (xs : List Value) (w wr : World) (v : Value) : Prop :=
  xs.length = sts.length ∧ wr.ownsRow W 36 1 v sts.length xs ∧ (∀ u ∈ xs, u.oneCell' = true) ∧ (∀ (i : Nat) (u : Value) (st : Stp), xs[i]? = some u → sts[i]? = some st → IsStp wr d (Own fp v) u st) ∧ Below W w wr ∧ W ≤ wr.heap.size

theorem FinXs.start {W d : Nat} {fp : Nat → Prop} {w : World} (h : W = w.heap.size) : FinXs W d fp [] [] w w (.slice none 0 0) :=
  ⟨rfl, World.ownsRow_nil _ _ _ _, by simp, by simp, Below.refl _ _, by rw [h]; exact Nat.le_refl _⟩

theorem FinXs.shape {W d : Nat} {fp : Nat → Prop} {sts : List Stp} {xs : List Value} {w wr : World} {v : Value} (h : FinXs W d fp sts xs w wr v) : ∃ p c, v = .slice p sts.length c := by
  rcases h.2.1.2 with ⟨h5, h6⟩ | ⟨g, cap, cur, h5, _⟩
  · exact ⟨none, 0, by rw [h5, h6]⟩
  · exact ⟨_, _, h5⟩

theorem FinXs.app {W d : Nat} {fp : Nat → Prop} {sts sts' : List Stp} {xs vs : List Value} {w wr w5 w7 : World} {v v' : Value} {T : TypeId} (h : FinXs W d fp sts xs w wr v) (hb : Below wr.heap.size wr w5)
    (hl : vs.length = sts'.length) (h1 : ∀ u ∈ vs, u.oneCell' = true) (hv : ∀ (i : Nat) (u : Value) (st : Stp), vs[i]? = some u → sts'[i]? = some st → IsStp w5 d (Own fp v) u st)
    (ho : w7.ownsRow W 36 1 v' (sts.length + sts'.length) (xs ++ vs)) (hg : (w5.alloc (Obj.cells vs.toArray T)).grownBy w7 v.ownBlock)
    (hw : v'.ownBlock = v.ownBlock ∨ v'.ownBlock = some (w5.alloc (Obj.cells vs.toArray T)).heap.size) : FinXs W d fp (sts ++ sts') (xs ++ vs) w w7 v' := by
  obtain ⟨hxl, hown, hone, hst, hbel, hsz⟩ := h
  have hbase : W ≤ w5.heap.size := Nat.le_trans hsz hb.size
  have hbw5 : Below W w w5 := hbel.trans (hb.mono hsz)
  have hba : W ≤ (w5.alloc (Obj.cells vs.toArray T)).heap.size := Nat.le_trans hbase (by simp)
  have hsub : ∀ k, Own fp v' k → Own fp v k ∨ (w5.alloc (Obj.cells vs.toArray T)).heap.size ≤ k := fun k hk => by
    rcases hk with hk | hk
    · exact .inl (.inl hk)
    · rcases hw with h8 | h8
      · exact .inl (.inr (by rw [← h8]; exact hk))
      · rw [h8] at hk
        injection hk with hk
        exact .inr (by omega)
  have hchg : Chg (Own fp v) (w5.alloc (Obj.cells vs.toArray T)) w7 := (Chg.grown hg).mono (fun k _ h => .inr h)
  have mv : ∀ {u : Value} {st : Stp}, IsStp w5 d (Own fp v) u st → IsStp w7 d (Own fp v') u st := fun {u st} h =>
    (h.chg (Chg.alloc _ _ _) (fun k h => .inl h)).chg hchg hsub
  refine ⟨by simp [hxl, hl], by rw [List.length_append]; exact ho, ?_, ?_, (hbw5.alloc hbase _).grown hg hba (fun k hk => (hown.lt k hk).1), Nat.le_trans hba hg.size⟩
  · intro u hu
    rcases List.mem_append.1 hu with h8 | h8
    · exact hone u h8
    · exact h1 u h8
  · intro i u st h8 h9
    rcases Nat.lt_or_ge i sts.length with hij | hij
    · rw [List.getElem?_append_left (by rw [hxl]; exact hij)] at h8
      rw [List.getElem?_append_left hij] at h9
      exact mv ((hst i u st h8 h9).chg (Chg.new hb _) (fun k h => .inl h))
    · rw [List.getElem?_append_right (by rw [hxl]; exact hij), hxl] at h8
      rw [List.getElem?_append_right hij] at h9
      exact mv (hv _ u st h8 h9)

theorem FinXs.all {W d : Nat} {fp : Nat → Prop} {sts : List Stp} {xs : List Value} {w wr : World} {p : Option Addr} {m c : Nat} (h : FinXs W d fp sts xs w wr (.slice p m c)) (hfp : ∀ k, fp k → k < W) : IsAll wr d fp p sts := fun i hi => by
  obtain ⟨hxl, hown, hone, hst, hbel, hsz⟩ := h
  obtain ⟨g, rfl⟩ : ∃ g, p = some ⟨g, 0, none⟩ := by
    rcases hown.2 with ⟨_, h6⟩ | ⟨g, cap, cur, h5, _⟩
    · omega
    · injection h5 with h5 _ _
      exact ⟨g, h5⟩
  have hcells := hown.cells (g := g) rfl
  have hgb := hown.lt g rfl
  have hng : ¬ fp g := fun hh => by have := hfp g hh; omega
  have hx : xs[i]? = some (xs[i]'(by rw [hxl]; exact hi)) := List.getElem?_eq_getElem _
  have h9 := hcells i _ hx
  rw [Addr.add_off _ rfl] at h9
  exact ⟨g, 0, _, _, rfl, List.getElem?_eq_getElem hi, h9, hng, (hst i _ _ hx (List.getElem?_eq_getElem hi)).weak (fun k h => .inl h)⟩

def markB : List UInt8 := [84, 82, 73, 65, 68, 76, 79, 71]
def le8 (u : Int) : List UInt8 := le (IntKind.u64.wrap u) 8
theorem le8_length (u : Int) : (le8 u).length = 8 := le_length _ _
def logSteps (ls : List (Int × List UInt8)) : List Stp := ls.mapIdx fun i q => .write (1 + (i : Int)) (le8 q.1 ++ q.2)
def comSteps (ls : List (Int × List UInt8)) : List Stp := logSteps ls ++ [.sync, .write 0 (markB ++ le8 ls.length), .sync]
theorem logSteps_length (ls : List (Int × List UInt8)) : (logSteps ls).length = ls.length := by simp [logSteps]
theorem comSteps_length (ls : List (Int × List UInt8)) : (comSteps ls).length = ls.length + 3 := by simp [comSteps, logSteps]
theorem logSteps_snoc (ls : List (Int × List UInt8)) (q : Int × List UInt8) : logSteps (ls ++ [q]) = logSteps ls ++ [.write (1 + (ls.length : Int)) (le8 q.1 ++ q.2)] := by
  simp [logSteps, List.mapIdx_append]

def cmt (n : Nat) (s : DS) (ls : List (Int × List UInt8)) : DS × Int :=
  if chk n ls = 0 then
    if (runStps n s (comSteps ls)).2 = 0 then runStps n (runStps n s (comSteps ls)).1 (finSteps ls) else runStps n s (comSteps ls)
  else (s, chk n ls)

theorem runStps_ops (n : Nat) (sts : List Stp) : ∀ s : DS, (runStps n s sts).1.ops ≤ s.ops + sts.length := by
  induction sts with
  | nil => intro s; simp [runStps]
  | cons st r ih =>
    intro s
    have h1 := doStp_ops n s st
    rw [runStps]
    split
    · have h2 := ih (doStp n s st).1
      rw [List.length_cons]; push_cast; omega
    · rw [List.length_cons]; push_cast; omega

theorem IsWr.shape {w : World} {d : Nat} {fp : Nat → Prop} {v : Value} {at_ : Int} {l : List UInt8} (h : IsStp w d fp v (.write at_ l)) :
    ∃ g0 g1 g2 g3, v = .func (.func 88) #[] #[.pointer (some ⟨g0, 0, none⟩), .pointer (some ⟨g1, 0, none⟩), .pointer (some ⟨g2, 0, none⟩), .pointer (some ⟨g3, 0, none⟩)] := by
  obtain ⟨g0, g1, g2, g3, _, _, _, _, h, _⟩ := h
  exact ⟨g0, g1, g2, g3, h⟩

theorem Far.bytes {w' : World} {fp : Nat → Prop} {B : Nat} {p : Option Addr} {n c : Nat} {l : List UInt8} (ho : w'.ownsRow B 5 1 (.slice p n c) n (bv l)) (hn : n = l.length) (hfp : ∀ k, fp k → k < B) : Far w' fp (.slice p n c) l :=
  ⟨by unfold Bs; rw [← hn]; exact Rd.of_own ho, fun _ g hg hh => by have := hfp g hh; have := (ho.lt g hg).1; omega⟩

theorem mark_lit (w : World) : (convert 41 41 (.slice (some ⟨w.heap.size, 0, none⟩) 8 8)).run Try.prog (w.alloc (.cells #[Value.int .u8 84, .int .u8 82, .int .u8 73, .int .u8 65, .int .u8 68, .int .u8 76, .int .u8 79, .int .u8 71] 5)) =
    .ok (.slice (some ⟨w.heap.size, 0, none⟩) 8 8) (w.alloc (.cells (bv markB).toArray 5 (8, 9))) :=
  Go.Lib.run_convert_bytes_const (P := Try.prog) w 41 5 #[Value.int .u8 84, .int .u8 82, .int .u8 73, .int .u8 65, .int .u8 68, .int .u8 76, .int .u8 79, .int .u8 71] 8 8 Try.underlying41 Try.underlying5
theorem mark_read (w : World) : Bs (w.alloc (.cells (bv markB).toArray 5 (8, 9))) (.slice (some ⟨w.heap.size, 0, none⟩) 8 8) markB := by
  refine ⟨rfl, _, _, rfl, Nat.le_refl _, by simp [maxLen], (fun h => by cases h), fun a ha j u hu => ?_⟩
  cases ha
  refine ⟨rfl, ?_⟩
  have h : (w.alloc (.cells (bv markB).toArray 5 (8, 9))).heap[w.heap.size]? = some (.cells (bv markB).toArray 5 (8, 9)) := heap_alloc_new w _
  simp only [World.cell?, h]
  simpa using hu
def PutsOut (fp : Nat → Prop) (a : Option Addr) : Prop := ∀ ad, a = some ad → ¬ fp ad.block
theorem IsPuts.chg {w w' : World} {fp fp' : Nat → Prop} {a : Option Addr} {ls : List (Int × List UInt8)} (h : IsPuts w fp a ls) (ha : PutsOut fp a) (hc : Chg fp w w') (hf : ∀ k, fp' k → fp k ∨ w.heap.size ≤ k) : IsPuts w' fp' a ls := fun i hi => by
  obtain ⟨ab, ao, q, p, c, rfl, hq, k0, k1, hfar⟩ := h i hi
  have hn : ¬ fp ab := ha _ rfl
  exact ⟨ab, ao, q, p, c, rfl, hq, (CellTo hc hn (World.block_lt_of_cell? w ⟨ab, ao + i * 2, none⟩ k0)).trans k0, (CellTo hc hn (World.block_lt_of_cell? w ⟨ab, ao + i * 2 + 1, none⟩ k1)).trans k1, hfar.chg hc hf⟩

theorem scanPuts_zero {n : Nat} : ∀ (ls before : List (Int × List UInt8)), scanPuts n before ls = 0 → ∀ q ∈ ls, 401 ≤ q.1 ∧ q.1 < (n : Int) ∧ q.2.length ≤ 504
  | [], _, _, q, hq => by cases hq
  | p :: r, before, h, q, hq => by
    rw [scanPuts] at h
    split at h
    · rename_i hok
      rcases List.mem_cons.1 hq with rfl | hq
      · simp [okAt] at hok; omega
      · exact scanPuts_zero r _ h q hq
    · omega
theorem chk_zero {n : Nat} {ls : List (Int × List UInt8)} (h : chk n ls = 0) : ls.length ≤ 400 ∧ ¬ ls.length = 0 ∧ ∀ q ∈ ls, 401 ≤ q.1 ∧ q.1 < (n : Int) ∧ q.2.length ≤ 504 := by
  unfold chk at h
  split at h
  · omega
  · split at h
    · omega
    · exact ⟨by omega, by assumption, scanPuts_zero ls [] h⟩

set_option maxRecDepth 100000 in
set_option maxHeartbeats 4000000 in
/-- the steps of a commit are made, and done -/
theorem com_any (w : World) (d : Nat) (fp : Nat → Prop) (n : Nat) (s : DS) (a : Option Addr) (c : Nat) (ls : List (Int × List UInt8)) (h : Dsk w d fp n s) (hp : IsPuts w fp a ls) (hpo' : ¬ ls.length = 0 → PutsOut fp a) (hl : ls.length ≤ 1000) (hb : ∀ q ∈ ls, q.2.length ≤ 1000)
    (hw : ∀ q ∈ ls, (Lit.int .i64 q.1).wf = true) (ho : s.ops + 3000 ≤ 1000000) :
    Calls Try.prog 56 #[.pointer (some ⟨d, 0, none⟩), .slice a ls.length c] w fun e w' => e = .returned (.int .i64 (cmt n s ls).2) ∧ DskTo w d fp n (cmt n s ls).1 w' := by
  have H := hid h
  have HP := hid hp
  have HB := hid hb
  have HCK := hid (check_any w d fp n s a c ls h hp hl hb hw)
  have hmf : ∀ (fn : Fn) (first cap : Array Value) (w : World), (Instr.makeFunc fn first cap).run Try.prog w = .ok (.func fn first cap) w := fun fn first cap w => by simp [Instr.makeFunc]
  clear h hp hb hw
  generalize hck : chk n ls = ck at HCK
  by_cases h0 : ck = 0
  · subst h0
    have CK0 := hid hck
    clear hck
    go_enter Try.func56, Try.ntmps56
    go_wp2_with fail
    refine HCK.out.mono ?_
    rintro e1 w0 ⟨rfl, hb0⟩
    have B00 := hid hb0
    clear hb0 HCK
    go_wp2_with fail
    obtain ⟨hl4, hl0, hqs⟩ := chk_zero CK0.out
    have hpo := hpo' hl0
    have QS := hid hqs
    clear hqs
    have hfp0 := H.out.lt
    have HFP := hid hfp0
    clear hfp0
    have HD0 := hid (H.out.chg (Chg.new B00.out NoFp) (fun _ _ h => h))
    have F0 : Hid (FinXs w0.heap.size d fp (logSteps (ls.take 0)) [] w0 w0 (.slice none 0 0)) := hid (FinXs.start rfl)
    have HP0 := hid (HP.out.chg hpo (Chg.new B00.out fp) (fun k h => .inl h))
    have HFP0 : Hid (∀ k, fp k → k < w0.heap.size) := hid HD0.out.lt
    go_loopw [6, 18] (fun v i wr => ∃ (j : Nat) (xs : List Value), j ≤ ls.length ∧ i = .int .i64 j ∧ FinXs w0.heap.size d fp (logSteps (ls.take j)) xs w0 wr v) (fun _ i _ => ls.length + 1 - (intOf i).toNat)
    case atStart => exact ⟨0, [], Nat.zero_le _, rfl, F0.out⟩
    case round =>
      obtain ⟨j, xs, hj, rfl, hfin⟩ := hrel
      have F1 := hid hfin
      clear hfin F0
      by_cases hlt : j < ls.length
      · obtain ⟨ab, ao, q, p, pc, rfl, hq, k0, k1, hfar⟩ := HP0.out j hlt
        have hab : ab < w0.heap.size := World.block_lt_of_cell? w0 ⟨ab, ao + j * 2, none⟩ k0
        have hbel := F1.out.2.2.2.2.1
        have k0' : wr.cell? ⟨ab, ao + j * 2, none⟩ = some (.int .i64 q.1) := (hbel.cell (p := ⟨ab, ao + j * 2, none⟩) hab).trans k0
        have k1' : wr.cell? ⟨ab, ao + j * 2 + 1, none⟩ = some (.slice p q.2.length pc) := (hbel.cell (p := ⟨ab, ao + j * 2 + 1, none⟩) hab).trans k1
        have hlen : (logSteps (ls.take j)).length = j := by rw [logSteps_length]; simp; omega
        obtain ⟨sp, sc, hsh⟩ := F1.out.shape
        rw [hlen] at hsh
        subst hsh
        have HLEN := hid hlen
        have HQ := hid hq
        have hql := QS.out q (List.mem_of_getElem? hq)
        have HFA : Hid (∀ k, Own fp (.slice sp j sc) k → k < wr.heap.size) := hid (fun k hk => by
          rcases hk with hk | hk
          · exact Nat.lt_of_lt_of_le (HFP0.out k hk) hbel.size
          · exact (F1.out.2.1.lt k hk).2)
        have HFAR : Hid (Far wr (Own fp (.slice sp j sc)) (.slice p q.2.length pc) q.2) := hid ⟨(hfar.chg (Chg.new hbel fp) (fun k h => .inl h)).1, fun hz g hg ho => by
          have hgl := Rd.lt hfar.1 hz (by decide) g hg
          rcases ho with ho | ho
          · exact hfar.2 hz g hg ho
          · have := (F1.out.2.1.lt g ho).1; omega⟩
        have HBEL := hid hbel
        clear hfar hq k0 k1 hab hlen hbel
        go_wp2_with fail
        have hba : Below wr.heap.size wr (wr.alloc (Obj.cells #[.int .i64 q.1, .slice p q.2.length pc] 105)) := (Below.refl _ _).alloc (Nat.le_refl _) _
        have hbk : Blk (wr.alloc (Obj.cells #[.int .i64 q.1, .slice p q.2.length pc] 105)) wr.heap.size [.int .i64 q.1, .slice p q.2.length pc] 105 := heap_alloc_new wr _
        generalize wr.alloc (Obj.cells #[.int .i64 q.1, .slice p q.2.length pc] 105) = wa at *
        have BA := hid hba
        have BK := hid hbk
        clear hba hbk k0' k1'
        have hS : ∀ w', Below wa.heap.size wa w' → w'.cell? ⟨wr.heap.size, 0, none⟩ = some (.int .i64 q.1) ∧ w'.cell? ⟨wr.heap.size, 1, none⟩ = some (.slice p q.2.length pc) := fun w' hb => by
          have h1 := BK.out.chg (Chg.new hb NoFp) (fun h => h)
          exact ⟨h1.cell 0, h1.cell 1⟩
        have HS := hid hS
        clear hS
        have hwj : IntKind.i64.wrap (1 + (j : Int)) = 1 + (j : Int) := by simp [IntKind.wrap, IntKind.bits, IntKind.signed]; omega
        refine wp_region_plan (fun w' => w'.cell? ⟨wr.heap.size, 0, none⟩ = some (.int .i64 q.1) ∧ w'.cell? ⟨wr.heap.size, 1, none⟩ = some (.slice p q.2.length pc)) (fun j => !([6, 9, 10, 11, 12].contains j)) (fun j => [11, 12].contains j)
          (.of [0, 1, 2, 3, 4, 5, 7, 8, 6, 9, 10, 11, 12]) (by kernel_rfl) (by kernel_rfl) rfl (by kernel_rfl) (by kernel_rfl) (HS.out _ (below_drewN (Below.refl _ _) 1)) ?_
        iterate 8 (apply wpPlan_val; (case ho => rfl); (case hst => rfl); (case hw => rfl); (case hv => intro w' hS; obtain ⟨c0, c1⟩ := hS; go_simp; first | done | rfl); intro K hK; go_simp; refine hK _ ?_; clear hK K)
        have BD : Hid (Below wa.heap.size wa wa.drew) := hid (below_drewN (Below.refl _ _) 1)
        refine wpPlan_list rfl rfl rfl (fun K hK => ?_)
        refine wpList_step (fun K2 hK2 => ?_)
        go_simp
        refine (cInt_any (.slice none 0 0) [] q.1 wa.drew (Rd.nil _ _) (by simp)).mono ?_
        rintro e1 w4 ⟨p4, n4, c4, rfl, hn4, hb4, ho4⟩
        rw [List.nil_append] at ho4 hn4
        have hb4' : Below wa.heap.size wa w4 := BD.out.trans hb4
        have B4 := hid hb4'
        have F4 : Hid (Far w4 (Own fp (.slice sp j sc)) (.slice p4 n4 c4) (le8 q.1)) := hid (Far.bytes ho4 hn4 (fun k hk => Nat.lt_of_lt_of_le (HFA.out k hk) BA.out.size))
        clear hb4 ho4 hn4 hb4'
        go_simp
        refine hK2 _ _ ?_
        clear hK2 K2
        simp only [wpList]
        refine hK _ _ (fun _ => HS.out _ B4.out) ?_
        clear hK K
        have BR4 := hid (BA.out.trans (B4.out.mono BA.out.size))
        have HFA4 : Hid (∀ k, Own fp (.slice sp j sc) k → k < w4.heap.size) := hid (fun k hk => Nat.lt_of_lt_of_le (HFA.out k hk) BR4.out.size)
        refine wpPlan_list rfl rfl rfl (fun K hK => ?_)
        refine wpList_step (fun K2 hK2 => ?_)
        go_simp
        refine (mkwr_any w4 d (Own fp (.slice sp j sc)) (1 + (j : Int)) (.slice p4 n4 c4) (.slice p q.2.length pc) (le8 q.1) q.2 F4.out (HFAR.out.chg (Chg.new BR4.out _) (fun k h => .inl h)) (by rw [List.length_append, le8_length]; omega) HFA4.out).mono ?_
        rintro e1 w5 ⟨vf, rfl, hvf1, hvf, hb5⟩
        obtain ⟨g0, g1, g2, g3, hvv⟩ := IsWr.shape hvf
        subst hvv
        have VF := hid hvf
        have V1 := hid hvf1
        have B5 := hid (B4.out.trans (hb5.mono B4.out.size))
        clear hvf hb5 hvf1
        go_simp
        refine hK2 _ _ ?_
        clear hK2 K2
        simp only [wpList]
        refine hK _ _ (fun _ => HS.out _ B5.out) ?_
        clear hK K
        refine wpPlan_list rfl rfl rfl (fun K hK => ?_)
        refine wpList_step (fun K2 hK2 => ?_)
        go_simp
        refine hK2 _ _ ?_
        clear hK2 K2
        simp only [wpList]
        refine hK _ _ (fun _ => HS.out _ (B5.out.alloc B5.out.size _)) ?_
        clear hK K
        have BR5 := hid (BA.out.trans (B5.out.mono BA.out.size))
        have O5 := hid (own_chg F1.out.2.1 (Chg.new BR5.out NoFp) (fun _ _ h => h))
        refine wpPlan_list rfl rfl rfl (fun K hK => ?_)
        have o5 := O5.out
        rw [HLEN.out] at o5
        have O6 := hid (o5.alloc (Obj.cells #[Value.func (.func 88) #[] #[.pointer (some ⟨g0, 0, none⟩), .pointer (some ⟨g1, 0, none⟩), .pointer (some ⟨g2, 0, none⟩), .pointer (some ⟨g3, 0, none⟩)]] 36))
        clear o5
        have V1s : Hid (∀ u ∈ [Value.func (.func 88) #[] #[.pointer (some ⟨g0, 0, none⟩), .pointer (some ⟨g1, 0, none⟩), .pointer (some ⟨g2, 0, none⟩), .pointer (some ⟨g3, 0, none⟩)]], u.oneCell' = true) := hid (fun u hu => by rw [List.mem_singleton] at hu; rw [hu]; exact V1.out)
        have SZ : Hid (w0.heap.size ≤ (w5.alloc (Obj.cells #[Value.func (.func 88) #[] #[.pointer (some ⟨g0, 0, none⟩), .pointer (some ⟨g1, 0, none⟩), .pointer (some ⟨g2, 0, none⟩), .pointer (some ⟨g3, 0, none⟩)]] 36)).heap.size) := hid (by
          have h1 := BR5.out.size
          have h2 := HBEL.out.size
          simp
          omega)
        refine wpList_append_rd rfl _ _ 115 rfl w0.heap.size 36 _ 1 8 Try.underlying115 infoFn rfl (by decide) (.slice sp j sc) j xs rfl O6.out (.slice (some ⟨w5.heap.size, 0, none⟩) 1 1) 1 [Value.func (.func 88) #[] #[.pointer (some ⟨g0, 0, none⟩), .pointer (some ⟨g1, 0, none⟩), .pointer (some ⟨g2, 0, none⟩), .pointer (some ⟨g3, 0, none⟩)]] rfl (Rd.fresh1 w5 (Value.func (.func 88) #[] #[.pointer (some ⟨g0, 0, none⟩), .pointer (some ⟨g1, 0, none⟩), .pointer (some ⟨g2, 0, none⟩), .pointer (some ⟨g3, 0, none⟩)]) 36) V1s.out (by simp only [maxLen]; omega) (by omega) SZ.out ?_
        intro pp cc w7 hown7 hg7 hb7
        have hfin := F1.out.app (w7 := w7) (v' := .slice pp (j + 1) cc) (T := 36) (vs := [Value.func (.func 88) #[] #[.pointer (some ⟨g0, 0, none⟩), .pointer (some ⟨g1, 0, none⟩), .pointer (some ⟨g2, 0, none⟩), .pointer (some ⟨g3, 0, none⟩)]]) (sts' := [.write (1 + (j : Int)) (le8 q.1 ++ q.2)]) BR5.out rfl V1s.out (fun i u st h1 h2 => by
          cases i with
          | zero => simp at h1 h2; subst h1 h2; exact VF.out
          | succ i => simp at h1) (by rw [HLEN.out]; exact hown7) hg7 hb7
        have HN : Hid (logSteps (ls.take (j + 1)) = logSteps (ls.take j) ++ [.write (1 + (j : Int)) (le8 q.1 ++ q.2)]) := hid (by
          rw [List.take_add_one, HQ.out]
          have := logSteps_snoc (ls.take j) q
          rw [show (ls.take j).length = j by simp; omega] at this
          exact this)
        rw [← HN.out] at hfin
        have FI := hid hfin
        clear hfin hown7 hg7 hb7 O6 V1s SZ O5 VF V1
        simp only [wpList]
        refine hK _ _ (fun h => by cases h) ?_
        clear hK K
        refine wpPlan_list rfl rfl rfl (fun K hK => ?_)
        refine wpList_step (fun K2 hK2 => ?_)
        go_simp
        refine hK2 _ _ ?_
        clear hK2 K2
        simp only [wpList]
        refine hK _ _ (fun h => by cases h) ?_
        clear hK K
        refine wpPlan_nil ?_
        simp only [Qn]
        go_wp2_with fail
        go_roundw
        case rel => exact ⟨j + 1, _, by omega, by go_num, FI.out⟩
        case measure => simp [intOf]; omega
      · obtain rfl : j = ls.length := by omega
        rw [List.take_length] at F1
        obtain ⟨sp, sc, hsh⟩ := F1.out.shape
        rw [logSteps_length] at hsh
        subst hsh
        have HBEL := hid F1.out.2.2.2.2.1
        have HFA : Hid (∀ k, Own fp (.slice sp ls.length sc) k → k < wr.heap.size) := hid (fun k hk => by
          rcases hk with hk | hk
          · exact Nat.lt_of_lt_of_le (HFP0.out k hk) HBEL.out.size
          · exact (F1.out.2.1.lt k hk).2)
        have hcv := mark_lit wr
        go_wp2_with fail
        have hba : Below wr.heap.size wr (wr.alloc (Obj.cells (bv markB).toArray 5 (8, 9))) := (Below.refl _ _).alloc (Nat.le_refl _) _
        have hbk := mark_read wr
        generalize wr.alloc (Obj.cells (bv markB).toArray 5 (8, 9)) = wa at *
        have BA := hid hba
        have BK := hid hbk
        clear hba hbk hcv
        refine (cInt_any (.slice none 0 0) [] (ls.length : Int) wa (Rd.nil _ _) (by simp)).mono ?_
        rintro e1 w4 ⟨p4, n4, c4, rfl, hn4, hb4, ho4⟩
        rw [List.nil_append] at ho4 hn4
        have B4 := hid hb4
        have BR4 := hid (BA.out.trans (hb4.mono BA.out.size))
        have F4 : Hid (Far w4 (Own fp (.slice sp ls.length sc)) (.slice p4 n4 c4) (le8 ls.length)) := hid (Far.bytes ho4 hn4 (fun k hk => Nat.lt_of_lt_of_le (HFA.out k hk) BA.out.size))
        have M4 : Hid (Far w4 (Own fp (.slice sp ls.length sc)) (.slice (some ⟨wr.heap.size, 0, none⟩) 8 8) markB) := hid ⟨BK.out.new hb4, fun _ g hg hh => by
          have h1 : wr.heap.size = g := by simpa [Value.ownBlock] using hg
          have := HFA.out g hh
          omega⟩
        have HFA4 : Hid (∀ k, Own fp (.slice sp ls.length sc) k → k < w4.heap.size) := hid (fun k hk => Nat.lt_of_lt_of_le (HFA.out k hk) BR4.out.size)
        clear hb4 ho4 hn4
        go_wp2_with fail
        refine (mkwr_any w4 d (Own fp (.slice sp ls.length sc)) 0 (.slice (some ⟨wr.heap.size, 0, none⟩) 8 8) (.slice p4 n4 c4) markB (le8 ls.length) M4.out F4.out (by rw [List.length_append, le8_length]; decide) HFA4.out).mono ?_
        rintro e1 w5 ⟨vf, rfl, hvf1, hvf, hb5⟩
        obtain ⟨g0, g1, g2, g3, hvv⟩ := IsWr.shape hvf
        subst hvv
        have VF := hid hvf
        have B5 := hid (BR4.out.trans (hb5.mono BR4.out.size))
        clear hvf hb5
        have o5 := own_chg F1.out.2.1 (Chg.new B5.out NoFp) (fun _ _ h => h)
        rw [logSteps_length] at o5
        have VS : Hid (∀ u ∈ [Value.func (.func 80) #[.pointer (some ⟨d, 0, none⟩)] #[], Value.func (.func 88) #[] #[.pointer (some ⟨g0, 0, none⟩), .pointer (some ⟨g1, 0, none⟩), .pointer (some ⟨g2, 0, none⟩), .pointer (some ⟨g3, 0, none⟩)], Value.func (.func 80) #[.pointer (some ⟨d, 0, none⟩)] #[]], u.oneCell' = true) := hid (fun u hu => by
          simp only [List.mem_cons, List.not_mem_nil, or_false] at hu
          rcases hu with h | h | h <;> subst h <;> rfl)
        have O6 := hid (o5.alloc (Obj.cells #[Value.func (.func 80) #[.pointer (some ⟨d, 0, none⟩)] #[], Value.func (.func 88) #[] #[.pointer (some ⟨g0, 0, none⟩), .pointer (some ⟨g1, 0, none⟩), .pointer (some ⟨g2, 0, none⟩), .pointer (some ⟨g3, 0, none⟩)], Value.func (.func 80) #[.pointer (some ⟨d, 0, none⟩)] #[]] 36))
        have SZ : Hid (w0.heap.size ≤ (w5.alloc (Obj.cells #[Value.func (.func 80) #[.pointer (some ⟨d, 0, none⟩)] #[], Value.func (.func 88) #[] #[.pointer (some ⟨g0, 0, none⟩), .pointer (some ⟨g1, 0, none⟩), .pointer (some ⟨g2, 0, none⟩), .pointer (some ⟨g3, 0, none⟩)], Value.func (.func 80) #[.pointer (some ⟨d, 0, none⟩)] #[]] 36)).heap.size) := hid (by
          have h1 := B5.out.size
          have h2 := HBEL.out.size
          simp
          omega)
        clear o5
        go_wp2_with (at_builtin; refine wp_keep ?_)
        refine hid ?_
        refine wpList_append_rd rfl _ _ 115 rfl w0.heap.size 36 _ 1 8 Try.underlying115 infoFn rfl (by decide) (.slice sp ls.length sc) ls.length xs rfl O6.out (.slice (some ⟨w5.heap.size, 0, none⟩) 3 3) 3 [Value.func (.func 80) #[.pointer (some ⟨d, 0, none⟩)] #[], Value.func (.func 88) #[] #[.pointer (some ⟨g0, 0, none⟩), .pointer (some ⟨g1, 0, none⟩), .pointer (some ⟨g2, 0, none⟩), .pointer (some ⟨g3, 0, none⟩)], Value.func (.func 80) #[.pointer (some ⟨d, 0, none⟩)] #[]] rfl (Rd.fresh w5 [Value.func (.func 80) #[.pointer (some ⟨d, 0, none⟩)] #[], Value.func (.func 88) #[] #[.pointer (some ⟨g0, 0, none⟩), .pointer (some ⟨g1, 0, none⟩), .pointer (some ⟨g2, 0, none⟩), .pointer (some ⟨g3, 0, none⟩)], Value.func (.func 80) #[.pointer (some ⟨d, 0, none⟩)] #[]] 36 (by simp [maxLen])) VS.out (by simp only [maxLen]; omega) (by omega) SZ.out ?_
        intro pp cc w7 hown7 hg7 hb7
        have hfin := F1.out.app (w7 := w7) (v' := .slice pp (ls.length + 3) cc) (T := 36) (vs := [Value.func (.func 80) #[.pointer (some ⟨d, 0, none⟩)] #[], Value.func (.func 88) #[] #[.pointer (some ⟨g0, 0, none⟩), .pointer (some ⟨g1, 0, none⟩), .pointer (some ⟨g2, 0, none⟩), .pointer (some ⟨g3, 0, none⟩)], Value.func (.func 80) #[.pointer (some ⟨d, 0, none⟩)] #[]]) (sts' := [.sync, .write 0 (markB ++ le8 ls.length), .sync]) B5.out rfl VS.out (fun i u st h1 h2 => by
          rcases i with _ | _ | _ | i
          · simp at h1 h2; subst h1 h2; rfl
          · simp at h1 h2; subst h1 h2; exact VF.out
          · simp at h1 h2; subst h1 h2; rfl
          · simp at h1) (by rw [logSteps_length]; exact hown7) hg7 hb7
        have FI : Hid (FinXs w0.heap.size d fp (comSteps ls) (xs ++ [Value.func (.func 80) #[.pointer (some ⟨d, 0, none⟩)] #[], Value.func (.func 88) #[] #[.pointer (some ⟨g0, 0, none⟩), .pointer (some ⟨g1, 0, none⟩), .pointer (some ⟨g2, 0, none⟩), .pointer (some ⟨g3, 0, none⟩)], Value.func (.func 80) #[.pointer (some ⟨d, 0, none⟩)] #[]]) w0 w7 (.slice pp (ls.length + 3) cc)) := hid hfin
        clear hfin hown7 hg7 hb7 O6 VS SZ VF
        have ALL := hid (FI.out.all HFP0.out)
        have BB7 := hid FI.out.2.2.2.2.1
        clear FI
        go_wp2_with fail
        refine (all_any w7 d fp n s pp (ls.length + 3) cc (comSteps ls) (HD0.out.chg (Chg.new BB7.out NoFp) (fun _ _ h => h)) (comSteps_length ls).symm (by omega) ALL.out (by omega)).mono ?_
        rintro e1 w8 ⟨rfl, hto⟩
        obtain ⟨fp8, hd8, hc8, hf8⟩ := DskTo.trans (Chg.new (B00.out.trans (BB7.out.mono B00.out.size)) fp) (fun k h => .inl h) hto
        have D8 := hid hd8
        have C8 := hid hc8
        have X8 := hid hf8
        have P8 := hid (HP.out.chg hpo hc8 hf8)
        clear hto hd8 hc8 hf8
        have OPS : Hid ((runStps n s (comSteps ls)).1.ops + 1000 ≤ 1000000) := hid (by have := runStps_ops n (comSteps ls) s; rw [comSteps_length] at this; push_cast at this; omega)
        generalize hr : runStps n s (comSteps ls) = R at *
        have HR := hid hr
        clear hr
        by_cases h0 : R.2 = 0
        · have HE : Hid (cmt n s ls = runStps n R.1 (finSteps ls)) := hid (by unfold cmt; rw [if_pos CK0.out, HR.out, if_pos h0])
          go_wp2_with fail
          refine (finish_any w8 d fp8 n R.1 a c ls D8.out P8.out hl4 (fun q hq => by have := QS.out q hq; omega) OPS.out).mono ?_
          rintro e1 w9 ⟨rfl, hto⟩
          have T9 := hid (DskTo.trans C8.out X8.out hto)
          clear hto
          go_wp2_with fail
          go_ret
          rw [HE.out]
          exact ⟨rfl, T9.out⟩
        · have HE : Hid (cmt n s ls = R) := hid (by unfold cmt; rw [if_pos CK0.out, HR.out, if_neg h0])
          have h0' : (R.2 == 0) = false := by simpa using h0
          go_wp2_with fail
          go_ret
          rw [HE.out]
          exact ⟨rfl, fp8, D8.out, C8.out, X8.out⟩
  · have HE : Hid (cmt n s ls = (s, ck)) := hid (by unfold cmt; rw [if_neg (by rw [hck]; exact h0), hck])
    have h0' : (ck == 0) = false := by simpa using h0
    clear hck h0
    go_enter Try.func56, Try.ntmps56
    go_wp2_with fail
    refine HCK.out.mono ?_
    rintro e1 w0 ⟨rfl, hb0⟩
    have B00 := hid hb0
    clear hb0 HCK
    go_wp2_with fail
    go_ret
    rw [HE.out]
    exact ⟨rfl, fp, H.out.chg (Chg.new B00.out NoFp) (fun _ _ h => h), Chg.new B00.out fp, fun k h => .inl h⟩
end Go.Proofs.Ytiphekepglihlaa
