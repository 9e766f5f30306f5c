/- bytes.Equal, bytes.HasPrefix; redo.count. rows of pages that a call itself makes. redo.Recover. -/
import Derived.Test.YtdilkgcoecipjaaCom
namespace Go.Proofs.Ytdilkgcoecipjaa
open Go.RowKit
set_option linter.unusedVariables false

theorem eq_any (w : World) (v v' : Value) (l l' : List UInt8) (h : Bs w v l) (h' : Bs w v' l') :
    Calls Try.prog 80 #[v, v'] w fun e w' => e = .returned (.bool (l == l')) ∧ w' = w := by
  have H := hid h
  have H' := hid h'
  clear h h'
  go_enter Try.func80, Try.ntmps80
  go_wp2_with (first
    | (refine wpList_bytes_str rfl 30 9 _ rfl 5 Try.underlying30 Try.underlying5 Try.underlying9 _ l rfl H.out ?_)
    | (refine wpList_bytes_str rfl 30 9 _ rfl 5 Try.underlying30 Try.underlying5 Try.underlying9 _ l' rfl H'.out ?_))
  go_ret
  exact ⟨rfl, rfl⟩

theorem slice_hi (w : World) (p : Option Addr) (n cap hi : Nat) (l : List UInt8) (h : Bs w (.slice p n cap) l) (hh : hi ≤ l.length) :
    ∃ p' c', (Instr.sliceAt 30 (.slice p n cap) none (some (.int .i64 (hi : Int))) none).run Try.prog w = .ok (.slice p' hi c') w ∧ Bs w (.slice p' hi c') (l.take hi) := by
  obtain ⟨hl, p0, c0, he, h3, h4, h5, h6⟩ := h
  cases he
  have hr := run_slice_rd (P := Try.prog) w 30 5 1 Try.underlying30 infoU8' p l.length cap 0 hi h5 (by omega) (by omega) none (some (.int .i64 (hi : Int))) (.inl ⟨rfl, rfl⟩) (.inr ⟨_, rfl⟩)
  have hs := (slice_rd_of w 1 p l.length cap (bv l) ⟨hl, _, _, rfl, h3, h4, h5, h6⟩ 0 hi (by omega) hh).1
  refine ⟨_, _, hr, ?_⟩
  unfold Bs
  rw [List.length_take, Nat.min_eq_left hh, ← bv_take]
  simpa using hs

theorem pre_any (w : World) (v v' : Value) (l l' : List UInt8) (h : Bs w v l) (h' : Bs w v' l') (hl : l'.length ≤ l.length) :
    Calls Try.prog 68 #[v, v'] w fun e w' => e = .returned (.bool (l.take l'.length == l')) ∧ w' = w := by
  obtain ⟨hlen, p, cap, rfl, h1, h2, h3, h4⟩ := id h
  obtain ⟨hlen', p', cap', rfl, h1', h2', h3', h4'⟩ := id h'
  obtain ⟨p2, c2, hsl, hb2⟩ := slice_hi w p l.length cap l'.length l h hl
  have HE := hid (eq_any w _ _ _ _ hb2 h')
  have hd : decide ((l'.length : Int) ≤ (l.length : Int)) = true := by simp; omega
  clear h h' hlen hlen' h3 h4 h3' h4' hb2
  go_enter Try.func68, Try.ntmps68
  go_wp2_with fail
  refine HE.out.mono ?_
  rintro e1 wx ⟨rfl, hw⟩
  subst hw
  go_wp2_with fail
  go_ret
  exact ⟨rfl, rfl⟩

/-- the number that stands at a log's head -/
def headN (b : List UInt8) : Int := wrap64 (num ((b.drop 8).take 8))
def cntOf (n : Nat) (b : List UInt8) : Int := if (b.take 8 == markB) = true ∧ 1 ≤ headN b ∧ headN b ≤ 400 ∧ headN b < (n : Int) then headN b else 0

set_option maxRecDepth 100000 in
theorem count_any (w : World) (d : Nat) (fp : Nat → Prop) (n : Nat) (s : DS) (h : Dsk w d fp n s) :
    Calls Try.prog 52 #[.pointer (some ⟨d, 0, none⟩)] w fun e w' => e = .returned (.tuple #[.int .i64 (if s.dead then 0 else cntOf n (row s.now 0)), .int .i64 (if s.dead then 13 else 0)]) ∧ Below w.heap.size w w' := by
  have H := hid h
  clear h
  rcases Bool.eq_false_or_eq_true s.dead with hdead | hdead
  · have HR := hid (dRead_err w d fp n s 0 H.out (.inl hdead))
    rw [if_pos hdead, if_pos hdead]
    have HD := hid hdead
    clear hdead
    go_enter Try.func52, Try.ntmps52
    go_wp2_with fail
    have h1 := HR.out
    rw [if_pos HD.out] at h1
    refine h1.mono ?_
    rintro e1 wx ⟨rfl, hw⟩
    subst hw
    go_wp2_with fail
    go_ret2
    exact ⟨rfl, Below.refl _ _⟩
  · have hn : 0 < n := H.out.ok.n1
    have HR := hid (dRead_ok w d fp n s 0 H.out hdead hn)
    have HL := hid (row_length H.out.ok.now hn)
    rw [if_neg (by rw [hdead]; decide), if_neg (by rw [hdead]; decide)]
    clear hdead
    generalize row s.now 0 = R at *
    go_enter Try.func52, Try.ntmps52
    go_wp2_with fail
    refine HR.out.mono ?_
    rintro e1 w1 ⟨g, rfl, hg, hblk, hb1⟩
    have BS := hid (Bs.blk hblk HL.out.symm (by simp [maxLen]))
    have B1 := hid hb1
    have G1 := hid hg
    clear hblk hb1 hg HR
    have hcv := mark_lit w1
    go_wp2_with fail
    have hba : Below w1.heap.size w1 (w1.alloc (Obj.cells (bv markB).toArray 5 (8, 9))) := (Below.refl _ _).alloc (Nat.le_refl _) _
    have hbk := mark_read w1
    generalize w1.alloc (Obj.cells (bv markB).toArray 5 (8, 9)) = wa at *
    have BA := hid hba
    have BSA := hid (BS.out.new hba)
    have BWA := hid (B1.out.trans (hba.mono B1.out.size))
    clear hba hcv
    have hp := pre_any wa _ _ R markB BSA.out hbk (by rw [HL.out]; decide)
    have HPRE := hid hp
    clear hp hbk
    refine HPRE.out.mono ?_
    rintro e1 wx ⟨rfl, hw⟩
    subst hw
    clear HPRE
    rw [show markB.length = 8 from rfl]
    generalize hm : (R.take 8 == markB) = m
    have HM := hid hm
    clear hm
    cases m with
    | false =>
      have HC : Hid (cntOf n R = 0) := hid (by unfold cntOf; rw [HM.out]; simp)
      go_wp2_with fail
      go_ret2
      rw [HC.out]
      exact ⟨rfl, BWA.out⟩
    | true =>
      go_wp2_with (refine wpList_slice_rd rfl 30 _ _ _ rfl 5 1 Try.underlying30 infoU8' _ 512 (bv R) rfl ?hrd 8 16 ⟨_, _, rfl, by decide, rfl⟩ ⟨_, _, rfl, by decide, rfl⟩ (by omega) (by omega) ?_; (case hrd => have h := BSA.out; unfold Bs at h; rw [HL.out] at h; exact h); intro p2 c2 hrd2 hob2; have R2 := hid hrd2; clear hrd2 hob2)
      have hb2 : Bs wx (.slice p2 8 c2) ((R.drop 8).take 8) := by
        have h : Rd wx 1 (.slice p2 8 c2) 8 (((bv R).drop 8).take 8) := R2.out
        rw [bv_drop, bv_take] at h
        have hl : ((R.drop 8).take 8).length = 8 := by simp [HL.out]
        unfold Bs
        rw [hl]; exact h
      have HB2 := hid hb2
      clear hb2
      have hl8 : ((R.drop 8).take 8).length = 8 := by simp [HL.out]
      refine (New_any _ _ wx HB2.out (by rw [hl8]; omega)).mono ?_
      rintro e1 w3 ⟨r, rfl, hb3, hr3, ob, hob, hrdr⟩
      have B3 := hid (BWA.out.trans (hb3.mono BWA.out.size))
      have RD := hid hrdr
      have R3 : Hid (w.heap.size ≤ r) := hid (Nat.le_trans BWA.out.size hr3)
      clear hob hr3 hb3 hrdr
      go_wp2_with fail
      refine (rInt_any r ob _ 0 w3 RD.out (by rw [hl8]; omega) (by omega) (by omega)).mono ?_
      rintro e1 w4 ⟨rfl, hch, _⟩
      have B4 := hid (B3.out.trans (hch.below (B := w.heap.size) (fun k hk => by rw [hk]; exact R3.out) B3.out.size))
      have hhn : wrap64 (num (tkGot ((R.drop 8).take 8) 0 8) : Int) = headN R := by
        unfold headN tkGot
        rw [if_neg (by decide), if_neg (by rw [hl8]; decide), List.take_of_length_le (by rw [hl8]; omega)]
      rw [hhn]
      have D4 := hid (H.out.chg (Chg.new B4.out NoFp) (fun _ _ h => h))
      clear hch hhn hl8
      have HC : Hid (cntOf n R = if 1 ≤ headN R ∧ headN R ≤ 400 ∧ headN R < (n : Int) then headN R else 0) := hid (by unfold cntOf; rw [HM.out]; simp)
      generalize headN R = N at *
      by_cases h1 : N < 1
      · have hd1 : decide (N < 1) = true := by simpa using h1
        have HC2 : Hid (cntOf n R = 0) := hid (by rw [HC.out, if_neg (by omega)])
        clear h1
        go_wp2_with fail
        go_ret2
        rw [HC2.out]
        exact ⟨rfl, B4.out⟩
      · have hd1 : decide (N < 1) = false := by simpa using h1
        by_cases h2 : 400 < N
        · have hd2 : decide (400 < N) = true := by simpa using h2
          have HC2 : Hid (cntOf n R = 0) := hid (by rw [HC.out, if_neg (by omega)])
          clear h1 h2
          go_wp2_with fail
          go_ret2
          rw [HC2.out]
          exact ⟨rfl, B4.out⟩
        · have hd2 : decide (400 < N) = false := by simpa using h2
          go_wp2_with fail
          refine (dSize_any w4 d fp n s D4.out).mono ?_
          rintro e1 wz ⟨rfl, hw⟩
          subst hw
          by_cases h3 : (n : Int) ≤ N
          · have hd3 : decide ((n : Int) ≤ N) = true := by simpa using h3
            have HC2 : Hid (cntOf n R = 0) := hid (by rw [HC.out, if_neg (by omega)])
            clear h1 h2 h3
            go_wp2_with fail
            go_ret2
            rw [HC2.out]
            exact ⟨rfl, B4.out⟩
          · have hd3 : decide ((n : Int) ≤ N) = false := by simpa using h3
            have HC2 : Hid (cntOf n R = N) := hid (by rw [HC.out, if_pos (by omega)])
            clear h1 h2 h3
            go_wp2_with fail
            go_ret2
            rw [HC2.out]
            exact ⟨rfl, B4.out⟩
end Go.Proofs.Ytdilkgcoecipjaa

namespace Go.Proofs.Ytdilkgcoecipjaa
open Go.RowKit
set_option linter.unusedVariables false

def putCells : List (Int × List UInt8) → List Value → List Value
  | q :: ls, b :: bs => .int .i64 q.1 :: b :: putCells ls bs
  | _, _ => []
theorem putCells_length : ∀ (ls : List (Int × List UInt8)) (bs : List Value), bs.length = ls.length → (putCells ls bs).length = ls.length * 2
  | [], [], _ => rfl
  | q :: ls, b :: bs, h => by
    rw [putCells, List.length_cons, List.length_cons, putCells_length ls bs (by simpa using h), List.length_cons]; omega
theorem putCells_snoc : ∀ (ls : List (Int × List UInt8)) (bs : List Value) (q : Int × List UInt8) (b : Value), bs.length = ls.length → putCells (ls ++ [q]) (bs ++ [b]) = putCells ls bs ++ [.int .i64 q.1, b]
  | [], [], q, b, _ => rfl
  | p :: ls, x :: bs, q, b, h => by
    simp only [List.cons_append, putCells]
    rw [putCells_snoc ls bs q b (by simpa using h)]
theorem putCells_get : ∀ (ls : List (Int × List UInt8)) (bs : List Value) (i : Nat) (q : Int × List UInt8) (b : Value), ls[i]? = some q → bs[i]? = some b → (putCells ls bs)[i * 2]? = some (.int .i64 q.1) ∧ (putCells ls bs)[i * 2 + 1]? = some b
  | [], _, i, q, b, h, _ => by simp at h
  | p :: ls, [], i, q, b, _, h => by simp at h
  | p :: ls, x :: bs, 0, q, b, h, h' => by
    simp at h h'
    subst h h'
    exact ⟨rfl, rfl⟩
  | p :: ls, x :: bs, i + 1, q, b, h, h' => by
    have h1 := putCells_get ls bs i q b (by simpa using h) (by simpa using h')
    rw [show (i + 1) * 2 = i * 2 + 1 + 1 by omega]
    exact h1

/-- pages in memory of one's own, their bytes in blocks of G -/
def PutsAt (W : Nat) (G : Nat → Prop) (ls : List (Int × List UInt8)) (bs : List Value) (w wr : World) (v : Value) : Prop :=
  wr.ownsRow W 108 2 v ls.length (putCells ls bs) ∧ bs.length = ls.length ∧
  (∀ (i : Nat) (q : Int × List UInt8) (b : Value), ls[i]? = some q → bs[i]? = some b → Bs wr b q.2 ∧ (0 < q.2.length → ∀ g, b.ownBlock = some g → G g ∧ v.ownBlock ≠ some g)) ∧ Below W w wr ∧ W ≤ wr.heap.size

theorem PutsAt.start {W : Nat} {G : Nat → Prop} {w wr : World} (hb : Below W w wr) (hs : W ≤ wr.heap.size) : PutsAt W G [] [] w wr (.slice none 0 0) :=
  ⟨World.ownsRow_nil _ _ _ _, rfl, fun i q b h => by simp at h, hb, hs⟩

theorem PutsAt.shape {W : Nat} {G : Nat → Prop} {ls : List (Int × List UInt8)} {bs : List Value} {w wr : World} {v : Value} (h : PutsAt W G ls bs w wr v) : ∃ p c, v = .slice p ls.length c := by
  rcases h.1.2 with ⟨h5, h6⟩ | ⟨g, cap, cur, h5, _⟩
  · exact ⟨none, 0, by rw [h5, h6]⟩
  · exact ⟨_, _, h5⟩

theorem putInfo : (Try.prog.info? 108).map (fun i => (i.zero, i.size, i.bytes)) = some (some (.agg #[.int .i64 0, .slice none 0 0]), 2, 32) := by kernel_rfl

/-- nothing of it is turned -/
theorem PutsAt.new {W : Nat} {G : Nat → Prop} {ls : List (Int × List UInt8)} {bs : List Value} {w wr w' : World} {v : Value} (h : PutsAt W G ls bs w wr v) (hb : Below wr.heap.size wr w') : PutsAt W G ls bs w w' v := by
  obtain ⟨h1, h2, h3, h4, h5⟩ := h
  exact ⟨own_chg h1 (Chg.new hb NoFp) (fun _ _ h => h), h2, fun i q b hq hb' => ⟨(h3 i q b hq hb').1.new hb, (h3 i q b hq hb').2⟩, h4.trans (hb.mono h5), Nat.le_trans h5 hb.size⟩

theorem PutsAt.app {W : Nat} {G : Nat → Prop} {ls : List (Int × List UInt8)} {bs : List Value} {w wr w5 w7 : World} {v v' b : Value} {q : Int × List UInt8} {T : TypeId} (h : PutsAt W G ls bs w wr v) (hb : Below wr.heap.size wr w5)
    (hv : Bs w5 b q.2) (hg' : 0 < q.2.length → ∀ g, b.ownBlock = some g → G g ∧ v.ownBlock ≠ some g)
    (ho : w7.ownsRow W 108 2 v' (ls.length + 1) (putCells ls bs ++ [.int .i64 q.1, b])) (hg : (w5.alloc (Obj.cells #[.int .i64 q.1, b] T)).grownBy w7 v.ownBlock)
    (hw : v'.ownBlock = v.ownBlock ∨ v'.ownBlock = some (w5.alloc (Obj.cells #[.int .i64 q.1, b] T)).heap.size) : PutsAt W G (ls ++ [q]) (bs ++ [b]) w w7 v' := by
  obtain ⟨h1, h2, h3, h4, h5⟩ := h
  have hbase : W ≤ w5.heap.size := Nat.le_trans h5 hb.size
  have hbw5 : Below W w w5 := h4.trans (hb.mono h5)
  have hba : W ≤ (w5.alloc (Obj.cells #[.int .i64 q.1, b] T)).heap.size := Nat.le_trans hbase (by simp)
  have mv : ∀ {q' : Int × List UInt8} {b' : Value}, Bs w5 b' q'.2 → (0 < q'.2.length → ∀ g, b'.ownBlock = some g → G g ∧ v.ownBlock ≠ some g) → Bs w7 b' q'.2 ∧ (0 < q'.2.length → ∀ g, b'.ownBlock = some g → G g ∧ v'.ownBlock ≠ some g) := fun {q' b'} hB hG => by
    have e1 : Bs (w5.alloc (Obj.cells #[.int .i64 q.1, b] T)) b' q'.2 := hB.new ((Below.refl _ _).alloc (Nat.le_refl _) _)
    refine ⟨e1.chg (Chg.grown hg) (fun hz g hgb _ hh => (hG hz g hgb).2 hh), fun hz g hgb => ⟨(hG hz g hgb).1, fun hh => ?_⟩⟩
    rcases hw with h8 | h8
    · exact (hG hz g hgb).2 (h8 ▸ hh)
    · rw [h8] at hh
      injection hh with hh
      have := Rd.lt e1 hz (by decide) g hgb
      omega
  refine ⟨by rw [putCells_snoc _ _ _ _ h2, List.length_append]; exact ho, by simp [h2], ?_, (hbw5.alloc hbase _).grown hg hba (fun k hk => (h1.lt k hk).1), Nat.le_trans hba hg.size⟩
  intro i q' b' hq hb'
  rcases Nat.lt_or_ge i ls.length with hij | hij
  · rw [List.getElem?_append_left hij] at hq
    rw [List.getElem?_append_left (by rw [h2]; exact hij)] at hb'
    have h9 := h3 i q' b' hq hb'
    exact mv (h9.1.new hb) h9.2
  · rw [List.getElem?_append_right hij] at hq
    rw [List.getElem?_append_right (by rw [h2]; exact hij), h2] at hb'
    have hi0 : i - ls.length = 0 := by
      rcases Nat.eq_zero_or_pos (i - ls.length) with h | h
      · exact h
      · rw [List.getElem?_eq_none (by simp; omega)] at hq; cases hq
    rw [hi0] at hq hb'
    simp at hq hb'
    subst hq hb'
    exact mv hv hg'

/-- one page more is appended -/
theorem wpList_append_put {W : Nat} {G : Nat → Prop} {ls : List (Int × List UInt8)} {bs : List Value} {w wr w5 : World} {v b : Value} {q : Int × List UInt8} {ops : Array Oper} {rest : List Oper} {o : Oper} {a : Act} {Q : Exit → Act → World → Prop}
    (h : PutsAt W G ls bs w wr v) (hb : Below wr.heap.size wr w5) (hv : Bs w5 b q.2) (hG : 0 < q.2.length → ∀ g, b.ownBlock = some g → G g ∧ v.ownBlock ≠ some g) (hgd : o.guard = none) (s x : Operand)
    (ho : o.op = .call { callee := .builtin .append, args := #[s, x], argTypes := #[104, 104] }) (hs : a.eval s = v) (hx : a.eval x = .slice (some ⟨w5.heap.size, 0, none⟩) 1 1) (h1 : b.oneCell' = true) (hl : ls.length ≤ 1000)
    (hK : ∀ (p' : Option Addr) (c' : Nat) w7, PutsAt W G (ls ++ [q]) (bs ++ [b]) w w7 (.slice p' (ls.length + 1) c') → wpList Try.prog ops Q rest (a.put o.dst (.slice p' (ls.length + 1) c')) w7) :
    wpList Try.prog ops Q (o :: rest) a (w5.alloc (Obj.cells #[.int .i64 q.1, b] 108)) := by
  have O5 := own_chg h.1 (Chg.new hb NoFp) (fun _ _ h => h)
  have SZ : W ≤ (w5.alloc (Obj.cells #[.int .i64 q.1, b] 108)).heap.size := Nat.le_trans (Nat.le_trans h.2.2.2.2 hb.size) (by simp)
  have hrd : Rd (w5.alloc (Obj.cells #[.int .i64 q.1, b] 108)) 2 (.slice (some ⟨w5.heap.size, 0, none⟩) 1 1) 1 [.int .i64 q.1, b] := by
    have hblk : Blk (w5.alloc (Obj.cells #[.int .i64 q.1, b] 108)) w5.heap.size [.int .i64 q.1, b] 108 := heap_alloc_new w5 _
    exact Rd.blk (off := 0) (n := 1) (c := 1) (size := 2) hblk (Nat.le_refl _) (by simp only [maxLen]; omega) (by simp)
  refine wpList_append_rd hgd s x 104 ho W 108 _ 2 32 Try.underlying104 putInfo rfl (by decide) v ls.length (putCells ls bs) hs (O5.alloc _) _ 1 [.int .i64 q.1, b] hx hrd
    (fun u hu => by
      simp only [List.mem_cons, List.not_mem_nil, or_false] at hu
      rcases hu with rfl | rfl
      · rfl
      · exact h1) (by simp only [maxLen]; omega) (by omega) SZ ?_
  intro p' c' w7 hown7 hg7 hb7
  exact hK p' c' w7 (h.app hb hv hG hown7 hg7 hb7)

theorem PutsAt.puts {W : Nat} {G fp : Nat → Prop} {ls : List (Int × List UInt8)} {bs : List Value} {w wr : World} {p : Option Addr} {m c : Nat} (h : PutsAt W G ls bs w wr (.slice p m c)) (hG : ∀ g, G g → ¬ fp g) (hfp : ∀ k, fp k → k < W) :
    IsPuts wr fp p ls ∧ PutsOut fp p := by
  obtain ⟨h1, h2, h3, h4, h5⟩ := h
  have hout : PutsOut fp p := fun ad had hf => by
    subst had
    have := (h1.lt ad.block rfl).1
    have := hfp _ hf
    omega
  refine ⟨fun i hi => ?_, hout⟩
  obtain ⟨g, rfl⟩ : ∃ g, p = some ⟨g, 0, none⟩ := by
    rcases h1.2 with ⟨_, h6⟩ | ⟨g, cap, cur, h5, _⟩
    · omega
    · injection h5 with h5 _ _
      exact ⟨g, h5⟩
  have hq : ls[i]? = some (ls[i]'hi) := List.getElem?_eq_getElem _
  have hb : bs[i]? = some (bs[i]'(by rw [h2]; exact hi)) := List.getElem?_eq_getElem _
  have hc := putCells_get ls bs i _ _ hq hb
  have hcells := h1.cells (g := g) rfl
  have k0 := hcells _ _ hc.1
  have k1 := hcells _ _ hc.2
  rw [Addr.add_off _ rfl] at k0 k1
  have h9 := h3 i _ _ hq hb
  obtain ⟨_, p9, c9, he9, _⟩ := id h9.1
  refine ⟨g, 0, _, p9, c9, rfl, hq, k0, ?_, ?_⟩
  · rw [← he9, Nat.add_assoc]; exact k1
  · rw [← he9]; exact ⟨h9.1, fun hz g hg => hG g (h9.2 hz g hg).1⟩
end Go.Proofs.Ytdilkgcoecipjaa

namespace Go.Proofs.Ytdilkgcoecipjaa
open Go.RowKit
set_option linter.unusedVariables false

def logRow (F : List UInt8) (i : Nat) : Int × List UInt8 := (wrap64 (num ((row F (1 + i)).take 8) : Int), (row F (1 + i)).drop 8)
def logOf (F : List UInt8) (m : Nat) : List (Int × List UInt8) := (List.range m).map (logRow F)
theorem logOf_length (F : List UInt8) (m : Nat) : (logOf F m).length = m := by simp [logOf]
theorem logOf_succ (F : List UInt8) (m : Nat) : logOf F (m + 1) = logOf F m ++ [logRow F m] := by simp [logOf, List.range_succ]
theorem logOf_get {F : List UInt8} {m i : Nat} (h : i < m) : (logOf F m)[i]? = some (logRow F i) := by simp [logOf, h]
def homesOk (n : Nat) (ls : List (Int × List UInt8)) : Bool := ls.all fun q => decide (401 ≤ q.1 ∧ q.1 < (n : Int))

def recov (n : Nat) (s : DS) : DS × Int × Int :=
  if s.dead = true then (s, 0, 13) else
    if cntOf n (row s.now 0) = 0 then (s, 0, 0) else
      if homesOk n (logOf s.now (cntOf n (row s.now 0)).toNat) = true then
        if (runStps n s (finSteps (logOf s.now (cntOf n (row s.now 0)).toNat))).2 = 0 then
          ((runStps n s (finSteps (logOf s.now (cntOf n (row s.now 0)).toNat))).1, cntOf n (row s.now 0), 0)
        else ((runStps n s (finSteps (logOf s.now (cntOf n (row s.now 0)).toNat))).1, 0, (runStps n s (finSteps (logOf s.now (cntOf n (row s.now 0)).toNat))).2)
      else (s, 0, 9)

theorem cntOf_bd (n : Nat) (b : List UInt8) : cntOf n b = 0 ∨ (1 ≤ cntOf n b ∧ cntOf n b ≤ 400 ∧ cntOf n b < (n : Int)) := by
  unfold cntOf
  split
  · exact .inr ⟨by omega, by omega, by omega⟩
  · exact .inl rfl

theorem bs_part {w : World} {g lo hi c : Nat} {R : List UInt8} (h : Blk w g (bv R) 5) (hR : R.length = 512) (h1 : lo + hi ≤ 512) (h2 : hi ≤ c) (h3 : c ≤ 512) :
    Bs w (.slice (some ⟨g, lo, none⟩) hi c) ((R.drop lo).take hi) := by
  have h9 := Rd.blk (off := lo) (n := hi) (c := c) (size := 1) h h2 (by simp only [maxLen]; omega) (by simp [hR]; omega)
  rw [Nat.mul_one, bv_drop, bv_take] at h9
  unfold Bs
  rw [show ((R.drop lo).take hi).length = hi by simp [hR]; omega]
  exact h9

set_option maxRecDepth 100000 in
set_option maxHeartbeats 4000000 in
theorem recov_any (w : World) (d : Nat) (fp : Nat → Prop) (n : Nat) (s : DS) (h : Dsk w d fp n s) (ho : s.ops + 3000 ≤ 1000000) :
    Calls Try.prog 36 #[.pointer (some ⟨d, 0, none⟩)] w fun e w' => e = .returned (.tuple #[.int .i64 (recov n s).2.1, .int .i64 (recov n s).2.2]) ∧ DskTo w d fp n (recov n s).1 w' := by
  have H := hid h
  have HC := hid (count_any w d fp n s h)
  clear h
  rcases Bool.eq_false_or_eq_true s.dead with hdead | hdead
  · have HE : Hid (recov n s = (s, 0, 13)) := hid (by unfold recov; rw [if_pos hdead])
    have h9 := HC.out
    rw [if_pos hdead, if_pos hdead] at h9
    have HC9 := hid h9
    clear h9 HC hdead
    go_enter Try.func36, Try.ntmps36
    go_wp2_with fail
    refine HC9.out.mono ?_
    rintro e1 w1 ⟨rfl, hb1⟩
    have B1 := hid hb1
    clear hb1
    go_wp2_with fail
    go_ret2
    rw [HE.out]
    exact ⟨rfl, fp, H.out.chg (Chg.new B1.out NoFp) (fun _ _ h => h), Chg.new B1.out fp, fun k h => .inl h⟩
  · have hnd : ¬ s.dead = true := by rw [hdead]; decide
    have HDD := hid hdead
    have h9 := HC.out
    rw [if_neg hnd, if_neg hnd] at h9
    have HC9 := hid h9
    have hcb := cntOf_bd n (row s.now 0)
    have HE0 : Hid (∀ N, cntOf n (row s.now 0) = N → recov n s = if N = 0 then (s, 0, 0) else
      if homesOk n (logOf s.now N.toNat) = true then
        if (runStps n s (finSteps (logOf s.now N.toNat))).2 = 0 then ((runStps n s (finSteps (logOf s.now N.toNat))).1, N, 0)
        else ((runStps n s (finSteps (logOf s.now N.toNat))).1, 0, (runStps n s (finSteps (logOf s.now N.toNat))).2)
      else (s, 0, 9)) := hid (fun N hN => by subst hN; unfold recov; rw [if_neg hnd])
    clear h9 HC hdead hnd
    generalize hN : cntOf n (row s.now 0) = N at *
    have HE := hid (HE0.out N rfl)
    clear hN HE0
    by_cases h0 : N = 0
    · have HE1 : Hid (recov n s = (s, 0, 0)) := hid (by rw [HE.out, if_pos h0])
      subst h0
      clear hcb
      go_enter Try.func36, Try.ntmps36
      go_wp2_with fail
      refine HC9.out.mono ?_
      rintro e1 w1 ⟨rfl, hb1⟩
      have B1 := hid hb1
      clear hb1
      go_wp2_with fail
      go_ret2
      rw [HE1.out]
      exact ⟨rfl, fp, H.out.chg (Chg.new B1.out NoFp) (fun _ _ h => h), Chg.new B1.out fp, fun k h => .inl h⟩
    · obtain ⟨m, rfl⟩ : ∃ m : Nat, N = (m : Int) := ⟨N.toNat, by omega⟩
      have hm0 : ((m : Int) == 0) = false := by simpa using h0
      have hmn : m < n ∧ m ≤ 400 ∧ 1 ≤ m := by omega
      have HE1 := hid HE.out
      rw [if_neg h0, Int.toNat_natCast] at HE1
      clear HE h0 hcb
      obtain ⟨hmn1, hmn2, hmn3⟩ := hmn
      go_enter Try.func36, Try.ntmps36
      go_wp2_with fail
      refine HC9.out.mono ?_
      rintro e1 w1 ⟨rfl, hb1⟩
      have B1 := hid hb1
      have D1 := hid (H.out.chg (Chg.new hb1 NoFp) (fun _ _ h => h))
      clear hb1 HC9
      go_wp2_with fail
      have P0 : Hid (PutsAt w.heap.size (fun g => w.heap.size ≤ g) (logOf s.now 0) [] w w1 (.slice none 0 0)) := hid (PutsAt.start B1.out B1.out.size)
      go_loopw [6, 26] (fun v i wr => ∃ (j : Nat) (bs : List Value), j ≤ m ∧ i = .int .i64 j ∧ PutsAt w.heap.size (fun g => w.heap.size ≤ g) (logOf s.now j) bs w wr v) (fun _ i _ => m + 1 - (intOf i).toNat)
      case atStart => exact ⟨0, [], Nat.zero_le _, rfl, P0.out⟩
      case round =>
        obtain ⟨j, bs, hj, rfl, hat⟩ := hrel
        have PA := hid hat
        obtain ⟨sp, sc, hsh⟩ := hat.shape
        rw [logOf_length] at hsh
        subst hsh
        clear hat P0
        by_cases hlt : j < m
        · have hwj : IntKind.i64.wrap (1 + (j : Int)) = 1 + (j : Int) := by simp [IntKind.wrap, IntKind.bits, IntKind.signed]; omega
          go_wp2_with fail
          have hrd := dRead_ok wr d fp n s (1 + j) (H.out.chg (Chg.new PA.out.2.2.2.1 NoFp) (fun _ _ h => h)) HDD.out (by omega)
          rw [show (((1 + j : Nat) : Int)) = 1 + (j : Int) by omega] at hrd
          refine hrd.mono ?_
          rintro e1 w2 ⟨g, rfl, hg, hblk, hb2⟩
          have HL := hid (row_length H.out.ok.now (show 1 + j < n by omega))
          have P2 := hid (PA.out.new hb2)
          have BK := hid hblk
          have G2 := hid hg
          have B2 := hid hb2
          clear hrd hg hblk hb2
          go_wp2_with fail
          refine wp_region_plan (fun w' => True) (fun j => !([3, 4, 8, 9, 10].contains j)) (fun j => [9, 10].contains j)
            (.of [0, 1, 2, 5, 6, 3, 4, 7, 8, 9, 10]) (by kernel_rfl) (by kernel_rfl) rfl (by kernel_rfl) (by kernel_rfl) trivial ?_
          iterate 5 (apply wpPlan_val; (case ho => rfl); (case hst => rfl); (case hw => rfl); (case hv => intro w' hS; go_simp; first | done | rfl); intro K hK; go_simp; refine hK _ ?_; clear hK K)
          have hbd : Below w2.heap.size w2 w2.drew := below_drewN (Below.refl _ _) 1
          have BD := hid hbd
          have P3 := hid (P2.out.new hbd)
          have K3 := hid (BK.out.chg (Chg.new hbd NoFp) (fun h => h))
          clear hbd
          refine wpPlan_list rfl rfl rfl (fun K hK => ?_)
          refine wpList_step (fun K2 hK2 => ?_)
          go_simp
          refine (New_any _ _ w2.drew (bs_part (lo := 0) (hi := 8) (c := 512) K3.out HL.out (by omega) (by omega) (by omega)) (by simp; omega)).mono ?_
          rintro e1 w3 ⟨r, rfl, hb3, hr3, ob, hob, hrdr⟩
          have P4 := hid (P3.out.new hb3)
          have K4 := hid (K3.out.chg (Chg.new hb3 NoFp) (fun h => h))
          have B3 := hid (BD.out.trans (hb3.mono BD.out.size))
          have RD := hid hrdr
          have R3 : Hid (w2.heap.size ≤ r) := hid hr3
          clear hb3 hr3 hob hrdr
          go_simp
          refine hK2 _ _ ?_
          clear hK2 K2
          simp only [wpList]
          refine hK _ _ (fun _ => trivial) ?_
          clear hK K
          refine wpPlan_list rfl rfl rfl (fun K hK => ?_)
          refine wpList_step (fun K2 hK2 => ?_)
          go_simp
          refine (rInt_any r ob _ 0 w3 RD.out (by simp; omega) (by omega) (by omega)).mono ?_
          rintro e1 w4 ⟨rfl, hch, _⟩
          have hq1 : wrap64 (num (tkGot (((row s.now (1 + j)).drop 0).take 8) 0 8) : Int) = (logRow s.now j).1 := by
            unfold logRow tkGot
            rw [if_neg (by decide), if_neg (by simp [HL.out]), List.drop_zero, List.take_take]
            rfl
          rw [hq1]
          have hq2 : (logRow s.now j).2 = (row s.now (1 + j)).drop 8 := rfl
          have B4 : Hid (Below w2.heap.size w2 w4) := hid (B3.out.trans (hch.below (B := w2.heap.size) (fun k hk => by rw [hk]; exact R3.out) B3.out.size))
          have P5 := hid (P2.out.new B4.out)
          have K5 := hid (BK.out.chg (Chg.new B4.out NoFp) (fun h => h))
          clear hch hq1
          go_simp
          refine hK2 _ _ ?_
          clear hK2 K2
          simp only [wpList]
          refine hK _ _ (fun _ => trivial) ?_
          clear hK K
          have V5 : Hid (Bs w4 (.slice (some ⟨g, 8, none⟩) 504 504) (logRow s.now j).2) := hid (by
            rw [hq2]
            have h9 := bs_part (lo := 8) (hi := 504) (c := 504) K5.out HL.out (by omega) (by omega) (by omega)
            rw [List.take_of_length_le (by simp [HL.out])] at h9
            exact h9)
          generalize hqq : logRow s.now j = q at *
          have HQ := hid hqq
          clear hqq
          apply wpPlan_val; (case ho => rfl); (case hst => rfl); (case hw => rfl); (case hv => intro w' hS; go_simp; first | done | rfl); intro K hK; go_simp; refine hK _ ?_; clear hK K
          refine wpPlan_list rfl rfl rfl (fun K hK => ?_)
          refine wpList_step (fun K2 hK2 => ?_)
          go_simp
          refine hK2 _ _ ?_
          clear hK2 K2
          simp only [wpList]
          refine hK _ _ (fun _ => trivial) ?_
          clear hK K
          have HG : Hid (0 < q.2.length → ∀ g', Value.ownBlock (.slice (some ⟨g, 8, none⟩) 504 504) = some g' → w.heap.size ≤ g' ∧ Value.ownBlock (.slice sp j sc) ≠ some g') := hid (fun _ g' hg' => by
            have e : g = g' := by simpa [Value.ownBlock] using hg'
            have h1 := PA.out.2.2.2.2
            have h2 := G2.out
            refine ⟨by omega, fun h3 => ?_⟩
            have := (PA.out.1.lt g' h3).2
            omega)
          refine wpPlan_list rfl rfl rfl (fun K hK => ?_)
          refine wpList_append_put (q := q) P2.out B4.out V5.out HG.out rfl _ _ rfl rfl rfl rfl (by rw [logOf_length]; omega) ?_
          intro p' c' w7 hp7
          have P7 : Hid (PutsAt w.heap.size (fun g => w.heap.size ≤ g) (logOf s.now (j + 1)) (bs ++ [.slice (some ⟨g, 8, none⟩) 504 504]) w w7 (.slice p' (j + 1) c')) := hid (by
            rw [logOf_length] at hp7
            rw [logOf_succ, HQ.out]
            exact hp7)
          clear hp7
          rw [logOf_length]
          simp only [wpList]
          refine hK _ _ (fun h => by cases h) ?_
          clear hK K
          refine wpPlan_list rfl rfl rfl (fun K hK => ?_)
          refine wpList_step (fun K2 hK2 => ?_)
          go_simp
          refine hK2 _ _ ?_
          clear hK2 K2
          simp only [wpList]
          refine hK _ _ (fun h => by cases h) ?_
          clear hK K
          refine wpPlan_nil ?_
          simp only [Qn]
          go_wp2_with fail
          go_roundw
          case rel => exact ⟨j + 1, _, by omega, by go_num, P7.out⟩
          case measure => simp [intOf]; omega
        · obtain rfl : j = m := by omega
          have hfin := PA.out.puts (fp := fp) (fun g hg hf => by have := H.out.lt g hf; omega) H.out.lt
          have FIN := hid hfin
          have BW := hid PA.out.2.2.2.1
          clear hfin
          have hll : (logOf s.now j).length = j := logOf_length _ _
          have HLL := hid hll
          have HB : Hid (∀ q ∈ logOf s.now j, q.2.length ≤ 600) := hid (fun q hq => by
            obtain ⟨i, hi, rfl⟩ := List.mem_map.1 hq
            have := List.mem_range.1 hi
            have h9 := row_length H.out.ok.now (show 1 + i < n by omega)
            show ((row s.now (1 + i)).drop 8).length ≤ 600
            simp [h9])
          generalize hls : logOf s.now j = ls at *
          subst hll
          clear hls PA
          obtain ⟨wq, hwq⟩ : ∃ wq, wq = wr := ⟨_, rfl⟩
          subst hwq
          go_wp2_with fail
          go_loopw [52] (fun i wr => ∃ (k : Nat), k ≤ ls.length ∧ i = .int .i64 k ∧ Below wq.heap.size wq wr ∧ ∀ (m : Nat) (p : Int × List UInt8), m < k → ls[m]? = some p → 401 ≤ p.1 ∧ p.1 < (n : Int)) (fun i _ => ls.length + 1 - (intOf i).toNat)
          case atStart => exact ⟨0, Nat.zero_le _, rfl, Below.refl _ _, fun m p hm => by omega⟩
          case round =>
            obtain ⟨k, hk, rfl, hbel, hno⟩ := hrel
            have BE := hid hbel
            have NO := hid hno
            clear hbel hno
            have BX := hid (BW.out.trans (BE.out.mono BW.out.size))
            by_cases hlt : k < ls.length
            · obtain ⟨ab, ao, q, p, pc, rfl, hq, k0, k1, hfar⟩ := FIN.out.1 k hlt
              have hab : ab < wq.heap.size := World.block_lt_of_cell? wq ⟨ab, ao + k * 2, none⟩ k0
              have k0' : wr.cell? ⟨ab, ao + k * 2, none⟩ = some (.int .i64 q.1) := (BE.out.cell (p := ⟨ab, ao + k * 2, none⟩) hab).trans k0
              have k1' : wr.cell? ⟨ab, ao + k * 2 + 1, none⟩ = some (.slice p q.2.length pc) := (BE.out.cell (p := ⟨ab, ao + k * 2 + 1, none⟩) hab).trans k1
              have HQ := hid hq
              clear hq k0 k1 hfar
              go_wp2_with fail
              have hba : Below wr.heap.size wr (wr.alloc (Obj.cells #[.int .i64 q.1, .slice p q.2.length pc] 108)) := (Below.refl _ _).alloc (Nat.le_refl _) _
              generalize wr.alloc (Obj.cells #[.int .i64 q.1, .slice p q.2.length pc] 108) = wa at *
              have BA := hid (BX.out.trans (hba.mono BX.out.size))
              have BAR := hid (BE.out.trans (hba.mono BE.out.size))
              clear hba
              refine (home_any wa d fp n s q.1 (H.out.chg (Chg.new BA.out NoFp) (fun _ _ h => h))).mono ?_
              rintro e1 wz ⟨rfl, hw⟩
              subst hw
              generalize hd : decide (401 ≤ q.1 ∧ q.1 < (n : Int)) = hm
              have HD := hid hd
              clear hd
              cases hm with
              | false =>
                have HE2 : Hid (recov n s = (s, 0, 9)) := hid (by
                  rw [HE1.out, if_neg]
                  unfold homesOk
                  intro h
                  rw [List.all_eq_true] at h
                  have := h q (List.mem_of_getElem? HQ.out)
                  rw [HD.out] at this
                  cases this)
                go_wp2_with fail
                go_ret2
                rw [HE2.out]
                exact ⟨rfl, fp, H.out.chg (Chg.new BA.out NoFp) (fun _ _ h => h), Chg.new BA.out fp, fun k h => .inl h⟩
              | true =>
                go_wp2_with fail
                go_roundw
                case rel =>
                  refine ⟨k + 1, by omega, by go_num, BAR.out, fun m p hm hp => ?_⟩
                  rcases Nat.lt_or_ge m k with h | h
                  · exact NO.out m p h hp
                  · obtain rfl : m = k := by omega
                    have e : p = q := Option.some.inj (hp.symm.trans HQ.out)
                    subst e
                    simpa using HD.out
                case measure => simp [intOf]; omega
            · obtain rfl : k = ls.length := by omega
              have HOK : Hid (homesOk n ls = true) := hid (by
                unfold homesOk
                rw [List.all_eq_true]
                intro q hq
                obtain ⟨i, hi, rfl⟩ := List.mem_iff_getElem.1 hq
                have := NO.out i _ hi (List.getElem?_eq_getElem hi)
                simpa using this)
              have HE2 := hid HE1.out
              rw [if_pos HOK.out] at HE2
              have P9 := hid (FIN.out.1.chg FIN.out.2 (Chg.new BE.out fp) (fun k h => .inl h))
              go_wp2_with fail
              refine (finish_any wr d fp n s sp sc ls (H.out.chg (Chg.new BX.out NoFp) (fun _ _ h => h)) P9.out hmn2 HB.out (by omega)).mono ?_
              rintro e1 w9 ⟨rfl, hto⟩
              have T9 := hid (DskTo.trans (Chg.new BX.out fp) (fun k h => .inl h) hto)
              clear hto
              generalize hr : runStps n s (finSteps ls) = R at *
              have HR := hid hr
              clear hr
              by_cases h0 : R.2 = 0
              · have HE3 := hid HE2.out
                rw [if_pos h0] at HE3
                go_wp2_with fail
                go_ret2
                rw [HE3.out]
                exact ⟨rfl, T9.out⟩
              · have HE3 := hid HE2.out
                rw [if_neg h0] at HE3
                have h0' : (R.2 == 0) = false := by simpa using h0
                go_wp2_with fail
                go_ret2
                rw [HE3.out]
                exact ⟨rfl, T9.out⟩
end Go.Proofs.Ytdilkgcoecipjaa
