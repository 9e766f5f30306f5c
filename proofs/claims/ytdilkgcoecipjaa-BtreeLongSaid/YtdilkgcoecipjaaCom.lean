/- redo.Commit: pages are written behind a log. -/
import Derived.Test.YtdilkgcoecipjaaChk
import Derived.Lib.SlBytesConst
namespace Go.Proofs.Ytdilkgcoecipjaa
open Go.RowKit
set_option linter.unusedVariables false

/-- the steps that were made so far, and the values that are them -/
def FinXs (W : Nat) (d : Nat) (fp : Nat → Prop) (sts : List Stp) (xs : List Value) (w wr : World) (v : Value) : Prop :=
  xs.length = sts.length ∧ wr.ownsRow W 55 1 v sts.length xs ∧ (∀ u ∈ xs, u.oneCell' = true) ∧ (∀ (i : Nat) (u : Value) (st : Stp), xs[i]? = some u → sts[i]? = some st → IsStp wr d (Own fp v) u st) ∧ Below W w wr ∧ W ≤ wr.heap.size

theorem FinXs.start {W d : Nat} {fp : Nat → Prop} {w : World} (h : W = w.heap.size) : FinXs W d fp [] [] w w (.slice none 0 0) :=
  ⟨rfl, World.ownsRow_nil _ _ _ _, by simp, by simp, Below.refl _ _, by rw [h]; exact Nat.le_refl _⟩

theorem FinXs.shape {W d : Nat} {fp : Nat → Prop} {sts : List Stp} {xs : List Value} {w wr : World} {v : Value} (h : FinXs W d fp sts xs w wr v) : ∃ p c, v = .slice p sts.length c := by
  rcases h.2.1.2 with ⟨h5, h6⟩ | ⟨g, cap, cur, h5, _⟩
  · exact ⟨none, 0, by rw [h5, h6]⟩
  · exact ⟨_, _, h5⟩

theorem FinXs.app {W d : Nat} {fp : Nat → Prop} {sts sts' : List Stp} {xs vs : List Value} {w wr w5 w7 : World} {v v' : Value} {T : TypeId} (h : FinXs W d fp sts xs w wr v) (hb : Below wr.heap.size wr w5)
    (hl : vs.length = sts'.length) (h1 : ∀ u ∈ vs, u.oneCell' = true) (hv : ∀ (i : Nat) (u : Value) (st : Stp), vs[i]? = some u → sts'[i]? = some st → IsStp w5 d (Own fp v) u st)
    (ho : w7.ownsRow W 55 1 v' (sts.length + sts'.length) (xs ++ vs)) (hg : (w5.alloc (Obj.cells vs.toArray T)).grownBy w7 v.ownBlock)
    (hw : v'.ownBlock = v.ownBlock ∨ v'.ownBlock = some (w5.alloc (Obj.cells vs.toArray T)).heap.size) : FinXs W d fp (sts ++ sts') (xs ++ vs) w w7 v' := by
  obtain ⟨hxl, hown, hone, hst, hbel, hsz⟩ := h
  have hbase : W ≤ w5.heap.size := Nat.le_trans hsz hb.size
  have hbw5 : Below W w w5 := hbel.trans (hb.mono hsz)
  have hba : W ≤ (w5.alloc (Obj.cells vs.toArray T)).heap.size := Nat.le_trans hbase (by simp)
  have hsub : ∀ k, Own fp v' k → Own fp v k ∨ (w5.alloc (Obj.cells vs.toArray T)).heap.size ≤ k := fun k hk => by
    rcases hk with hk | hk
    · exact .inl (.inl hk)
    · rcases hw with h8 | h8
      · exact .inl (.inr (by rw [← h8]; exact hk))
      · rw [h8] at hk
        injection hk with hk
        exact .inr (by omega)
  have hchg : Chg (Own fp v) (w5.alloc (Obj.cells vs.toArray T)) w7 := (Chg.grown hg).mono (fun k _ h => .inr h)
  have mv : ∀ {u : Value} {st : Stp}, IsStp w5 d (Own fp v) u st → IsStp w7 d (Own fp v') u st := fun {u st} h =>
    (h.chg (Chg.alloc _ _ _) (fun k h => .inl h)).chg hchg hsub
  refine ⟨by simp [hxl, hl], by rw [List.length_append]; exact ho, ?_, ?_, (hbw5.alloc hbase _).grown hg hba (fun k hk => (hown.lt k hk).1), Nat.le_trans hba hg.size⟩
  · intro u hu
    rcases List.mem_append.1 hu with h8 | h8
    · exact hone u h8
    · exact h1 u h8
  · intro i u st h8 h9
    rcases Nat.lt_or_ge i sts.length with hij | hij
    · rw [List.getElem?_append_left (by rw [hxl]; exact hij)] at h8
      rw [List.getElem?_append_left hij] at h9
      exact mv ((hst i u st h8 h9).chg (Chg.new hb _) (fun k h => .inl h))
    · rw [List.getElem?_append_right (by rw [hxl]; exact hij), hxl] at h8
      rw [List.getElem?_append_right hij] at h9
      exact mv (hv _ u st h8 h9)

theorem FinXs.all {W d : Nat} {fp : Nat → Prop} {sts : List Stp} {xs : List Value} {w wr : World} {p : Option Addr} {m c : Nat} (h : FinXs W d fp sts xs w wr (.slice p m c)) (hfp : ∀ k, fp k → k < W) : IsAll wr d fp p sts := fun i hi => by
  obtain ⟨hxl, hown, hone, hst, hbel, hsz⟩ := h
  obtain ⟨g, rfl⟩ : ∃ g, p = some ⟨g, 0, none⟩ := by
    rcases hown.2 with ⟨_, h6⟩ | ⟨g, cap, cur, h5, _⟩
    · omega
    · injection h5 with h5 _ _
      exact ⟨g, h5⟩
  have hcells := hown.cells (g := g) rfl
  have hgb := hown.lt g rfl
  have hng : ¬ fp g := fun hh => by have := hfp g hh; omega
  have hx : xs[i]? = some (xs[i]'(by rw [hxl]; exact hi)) := List.getElem?_eq_getElem _
  have h9 := hcells i _ hx
  rw [Addr.add_off _ rfl] at h9
  exact ⟨g, 0, _, _, rfl, List.getElem?_eq_getElem hi, h9, hng, (hst i _ _ hx (List.getElem?_eq_getElem hi)).weak (fun k h => .inl h)⟩

def markB : List UInt8 := [84, 82, 73, 65, 68, 76, 79, 71]
def le8 (u : Int) : List UInt8 := le (IntKind.u64.wrap u) 8
theorem le8_length (u : Int) : (le8 u).length = 8 := le_length _ _
def logSteps (ls : List (Int × List UInt8)) : List Stp := ls.mapIdx fun i q => .write (1 + (i : Int)) (le8 q.1 ++ q.2)
def comSteps (ls : List (Int × List UInt8)) : List Stp := logSteps ls ++ [.sync, .write 0 (markB ++ le8 ls.length), .sync]
theorem logSteps_length (ls : List (Int × List UInt8)) : (logSteps ls).length = ls.length := by simp [logSteps]
theorem comSteps_length (ls : List (Int × List UInt8)) : (comSteps ls).length = ls.length + 3 := by simp [comSteps, logSteps]
theorem logSteps_snoc (ls : List (Int × List UInt8)) (q : Int × List UInt8) : logSteps (ls ++ [q]) = logSteps ls ++ [.write (1 + (ls.length : Int)) (le8 q.1 ++ q.2)] := by
  simp [logSteps, List.mapIdx_append]

def cmt (n : Nat) (s : DS) (ls : List (Int × List UInt8)) : DS × Int :=
  if chk n ls = 0 then
    if (runStps n s (comSteps ls)).2 = 0 then runStps n (runStps n s (comSteps ls)).1 (finSteps ls) else runStps n s (comSteps ls)
  else (s, chk n ls)

theorem runStps_ops (n : Nat) (sts : List Stp) : ∀ s : DS, (runStps n s sts).1.ops ≤ s.ops + sts.length := by
  induction sts with
  | nil => intro s; simp [runStps]
  | cons st r ih =>
    intro s
    have h1 := doStp_ops n s st
    rw [runStps]
    split
    · have h2 := ih (doStp n s st).1
      rw [List.length_cons]; push_cast; omega
    · rw [List.length_cons]; push_cast; omega

theorem IsWr.shape {w : World} {d : Nat} {fp : Nat → Prop} {v : Value} {at_ : Int} {l : List UInt8} (h : IsStp w d fp v (.write at_ l)) :
    ∃ g0 g1 g2 g3, v = .func (.func 82) #[] #[.pointer (some ⟨g0, 0, none⟩), .pointer (some ⟨g1, 0, none⟩), .pointer (some ⟨g2, 0, none⟩), .pointer (some ⟨g3, 0, none⟩)] := by
  obtain ⟨g0, g1, g2, g3, _, _, _, _, h, _⟩ := h
  exact ⟨g0, g1, g2, g3, h⟩

theorem Far.bytes {w' : World} {fp : Nat → Prop} {B : Nat} {p : Option Addr} {n c : Nat} {l : List UInt8} (ho : w'.ownsRow B 5 1 (.slice p n c) n (bv l)) (hn : n = l.length) (hfp : ∀ k, fp k → k < B) : Far w' fp (.slice p n c) l :=
  ⟨by unfold Bs; rw [← hn]; exact Rd.of_own ho, fun _ g hg hh => by have := hfp g hh; have := (ho.lt g hg).1; omega⟩

theorem mark_lit (w : World) : (convert 30 30 (.slice (some ⟨w.heap.size, 0, none⟩) 8 8)).run Try.prog (w.alloc (.cells #[Value.int .u8 84, .int .u8 82, .int .u8 73, .int .u8 65, .int .u8 68, .int .u8 76, .int .u8 79, .int .u8 71] 5)) =
    .ok (.slice (some ⟨w.heap.size, 0, none⟩) 8 8) (w.alloc (.cells (bv markB).toArray 5 (8, 9))) :=
  Go.Lib.run_convert_bytes_const (P := Try.prog) w 30 5 #[Value.int .u8 84, .int .u8 82, .int .u8 73, .int .u8 65, .int .u8 68, .int .u8 76, .int .u8 79, .int .u8 71] 8 8 Try.underlying30 Try.underlying5
theorem mark_read (w : World) : Bs (w.alloc (.cells (bv markB).toArray 5 (8, 9))) (.slice (some ⟨w.heap.size, 0, none⟩) 8 8) markB := by
  refine ⟨rfl, _, _, rfl, Nat.le_refl _, by simp [maxLen], (fun h => by cases h), fun a ha j u hu => ?_⟩
  cases ha
  refine ⟨rfl, ?_⟩
  have h : (w.alloc (.cells (bv markB).toArray 5 (8, 9))).heap[w.heap.size]? = some (.cells (bv markB).toArray 5 (8, 9)) := heap_alloc_new w _
  simp only [World.cell?, h]
  simpa using hu
def PutsOut (fp : Nat → Prop) (a : Option Addr) : Prop := ∀ ad, a = some ad → ¬ fp ad.block
theorem IsPuts.chg {w w' : World} {fp fp' : Nat → Prop} {a : Option Addr} {ls : List (Int × List UInt8)} (h : IsPuts w fp a ls) (ha : PutsOut fp a) (hc : Chg fp w w') (hf : ∀ k, fp' k → fp k ∨ w.heap.size ≤ k) : IsPuts w' fp' a ls := fun i hi => by
  obtain ⟨ab, ao, q, p, c, rfl, hq, k0, k1, hfar⟩ := h i hi
  have hn : ¬ fp ab := ha _ rfl
  exact ⟨ab, ao, q, p, c, rfl, hq, (CellTo hc hn (World.block_lt_of_cell? w ⟨ab, ao + i * 2, none⟩ k0)).trans k0, (CellTo hc hn (World.block_lt_of_cell? w ⟨ab, ao + i * 2 + 1, none⟩ k1)).trans k1, hfar.chg hc hf⟩

theorem scanPuts_zero {n : Nat} : ∀ (ls before : List (Int × List UInt8)), scanPuts n before ls = 0 → ∀ q ∈ ls, 401 ≤ q.1 ∧ q.1 < (n : Int) ∧ q.2.length ≤ 504
  | [], _, _, q, hq => by cases hq
  | p :: r, before, h, q, hq => by
    rw [scanPuts] at h
    split at h
    · rename_i hok
      rcases List.mem_cons.1 hq with rfl | hq
      · simp [okAt] at hok; omega
      · exact scanPuts_zero r _ h q hq
    · omega
theorem chk_zero {n : Nat} {ls : List (Int × List UInt8)} (h : chk n ls = 0) : ls.length ≤ 400 ∧ ¬ ls.length = 0 ∧ ∀ q ∈ ls, 401 ≤ q.1 ∧ q.1 < (n : Int) ∧ q.2.length ≤ 504 := by
  unfold chk at h
  split at h
  · omega
  · split at h
    · omega
    · exact ⟨by omega, by assumption, scanPuts_zero ls [] h⟩

end Go.Proofs.Ytdilkgcoecipjaa
