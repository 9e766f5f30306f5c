/- sol.Sort. -/
import Derived.Test.YtkhdadbbgfjcgaaSolL
namespace Go.Proofs.Ytkhdadbbgfjcgaa
open Go.RowKit
set_option linter.unusedVariables false

abbrev TRs : TypeId := 57
theorem infoR2 : (Try.prog.info? TR).map (fun i => (i.zero, i.size, i.bytes)) = some (some (.agg #[.string ⟨#[]⟩, .slice none 0 0]), 2, 40) := by kernel_rfl
theorem rcs_one {l : List Rw} (h : One1 l) : ∀ u ∈ rcs l, u.oneCell' = true := by
  intro u hu
  obtain ⟨x, hx, hu⟩ := List.mem_flatMap.1 hu
  exact rc_one (h x hx) u hu
theorem Ro.own {B0 : Nat} {w : World} {g cap : Nat} {l : List Rw} {r : List Value} (hB : B0 ≤ g) (h : Ro w g l r) (hn : l.length ≤ cap) (hm : cap ≤ maxLen) (hc : (rcs l ++ r).length = cap * 2) : w.ownsRow B0 TR 2 (.slice (some ⟨g, 0, none⟩) l.length cap) l.length (rcs l) :=
  ⟨rcs_length l, .inr ⟨g, cap, _, rfl, hB, h, hn, hm, by simpa using hc, by
    rw [List.toList_toArray, List.take_append_of_le_length (l₁ := rcs l) (by rw [rcs_length]; exact Nat.le_refl _), List.take_of_length_le (l := rcs l) (by rw [rcs_length]; exact Nat.le_refl _)]⟩⟩
theorem ro_open {B0 : Nat} {w : World} {v : Value} {l : List Rw} (h : w.ownsRow B0 TR 2 v l.length (rcs l)) : (v = .slice none 0 0 ∧ l = []) ∨ ∃ g cap r, v = .slice (some ⟨g, 0, none⟩) l.length cap ∧ B0 ≤ g ∧ Ro w g l r ∧ l.length ≤ cap ∧ cap ≤ maxLen ∧ (rcs l ++ r).length = cap * 2 := by
  rcases h.2 with ⟨rfl, hz⟩ | ⟨g, cap, cur, rfl, hB, hg, hnc, hcm, hcs, ht⟩
  · exact .inl ⟨rfl, List.eq_nil_of_length_eq_zero hz⟩
  · refine .inr ⟨g, cap, cur.toList.drop (l.length * 2), rfl, hB, ?_, hnc, hcm, ?_⟩
    · show w.heap[g]? = _
      rw [hg]
      congr 2
      apply Array.ext'
      rw [List.toList_toArray]
      rw [← ht, List.take_append_drop]
    · rw [← ht, List.take_append_drop]; simpa using hcs

set_option maxRecDepth 100000 in
theorem sortStable_any (l : List Rw) (B0 : Nat) (v : Value) (w : World) (h : w.ownsRow B0 TR 2 v l.length (rcs l)) (h1 : One1 l) (hlim : l.length ≤ 1000000) (hB : B0 ≤ w.heap.size) :
    Calls Try.prog 30 #[v, fv] w fun e w' => e = .returned (.tuple #[]) ∧ w'.ownsRow B0 TR 2 v l.length (rcs (srt KR l)) ∧ Below B0 w w' := by
  rcases ro_open h with ⟨rfl, rfl⟩ | ⟨g, cap, r, rfl, hBg, hro, hnc, hcm, hcs⟩
  · clear h
    go_enter Try.func30, Try.ntmps30
    go_wp2_with fail
    refine (stable_nil w).mono ?_; rintro e1 w1 ⟨rfl, hw⟩; subst hw
    go_wp2_with fail
    go_end0
    exact ⟨rfl, World.ownsRow_nil _ _ _ _, Below.refl _ _⟩
  · have HR := hid (And.intro hBg (And.intro hro (And.intro hnc (And.intro hcm hcs))))
    have H1 := hid h1
    clear h hBg hro hnc hcm hcs h1
    go_enter Try.func30, Try.ntmps30
    go_wp2_with fail
    refine (stable_any l r g l.length cap w HR.out.2.1 H1.out rfl hlim).mono ?_; rintro e1 w1 ⟨rfl, ho1, hc1⟩
    have HO := hid ho1
    have HC := hid hc1
    clear ho1 hc1
    go_wp2_with fail
    go_end0
    refine ⟨rfl, ?_, HC.out.below (fun k hk => by subst hk; exact HR.out.1) hB⟩
    have h2 := Ro.own (B0 := B0) HR.out.1 HO.out (by rw [srt_len]; exact HR.out.2.2.1) HR.out.2.2.2.1 (by have := HR.out.2.2.2.2; simp only [List.length_append, rcs_length, srt_len] at this ⊢; exact this)
    rw [srt_len] at h2
    exact h2

theorem rd_row {w : World} {gx : Nat} {x : Rw} (h : Blk w gx (rc x) TR) : Rd w 2 (.slice (some ⟨gx, 0, none⟩) 1 1) 1 (rc x) := by
  have h := Rd.blk (off := 0) (n := 1) (c := 1) (size := 2) h (Nat.le_refl _) one_le_maxLen (by rw [rc_length]; omega)
  simpa [rc] using h
theorem rd_sol {w : World} {gx : Nat} {v : Value} (h : Blk w gx [v] TL) : Rd w 1 (.slice (some ⟨gx, 0, none⟩) 1 1) 1 [v] := by
  have h := Rd.blk (off := 0) (n := 1) (c := 1) (size := 1) h (Nat.le_refl _) one_le_maxLen (by simp)
  simpa using h

set_option maxRecDepth 100000 in
set_option maxHeartbeats 4000000 in
theorem sort_any (L : List Sl) (v : Value) (w : World) (n : Nat) (hs : SolsAt w v L) (hl : L.length ≤ 100000) (ho : ∀ s ∈ L, OkS n s) (hn : n ≤ 1000) :
    Calls Try.prog 15 #[v] w fun e w' => ∃ p c, e = .returned (.slice p L.length c) ∧ OwnL w.heap.size w' (.slice p L.length c) (srt textP L) ∧ Below w.heap.size w w' := by
  obtain ⟨p, c, rfl⟩ := hs.shape
  obtain ⟨G, hG, hrd, hsa⟩ := hs
  have hgl : G.length = L.length := by rw [← hG, ss_len]
  have HGL := hid hgl
  have HG := hid (And.intro hG (And.intro hrd hsa))
  have HOK := hid ho
  clear hG hrd hsa ho hgl
  go_enter Try.func15, Try.ntmps15
  go_wp2_with fail
  go_loopw [3, 11] (fun vr vi wr => ∃ (i : Nat) (p1 : Option Addr) (c1 : Nat), vr = .slice p1 i c1 ∧ vi = .int .i64 i ∧ i ≤ L.length ∧ Hid (wr.ownsRow w.heap.size TR 2 (.slice p1 i c1) i (rcs (G.take i))) ∧ Hid (Below w.heap.size w wr)) (fun vr vi _ => L.length + 1 - (intOf vi).toNat)
  case atStart => exact ⟨0, none, 0, rfl, rfl, Nat.zero_le _, World.ownsRow_nil _ _ _ _, Below.refl _ _⟩
  case round =>
    obtain ⟨i, p1, c1, rfl, rfl, hi, HO, HB⟩ := hrel
    have hsz := HB.out.size
    by_cases hlt : i < L.length
    · have hlt2 : (i : Int) < (L.length : Int) := by omega
      have hiG : i < G.length := by rw [HGL.out]; exact hlt
      obtain ⟨⟨xv, xs⟩, hx⟩ : ∃ x, G[i] = x := ⟨_, rfl⟩
      obtain ⟨px, cx, rfl⟩ : ∃ px cx, xv = .slice px xs.length cx := (HG.out.2.2 (xv, xs) (by rw [← hx]; exact List.getElem_mem hiG)).shape
      have hx0 := hx
      generalize hxx : ((.slice px xs.length cx, xs) : Rw) = x at hx0
      clear hx0
      have hx : G[i] = x := hx.trans hxx
      have hmem : x ∈ G := by rw [← hx]; exact List.getElem_mem hiG
      have hsx : SolAt wr x.1 x.2 := (HG.out.2.2 x hmem).new HB.out
      have hox : OkS n x.2 := HOK.out _ (by rw [← HG.out.1]; exact List.mem_map.2 ⟨x, hmem, rfl⟩)
      obtain ⟨b, off, rfl, hcc⟩ := Rd.addr (HG.out.2.1.new HB.out) (by omega)
      have hcell : wr.cell? ⟨b, off + i, none⟩ = some x.1 := hcc i x.1 (by rw [← hx]; simp [sv, hiG])
      have HTK := hid (show G.take (i + 1) = G.take i ++ [x] by rw [List.take_add_one, List.getElem?_eq_getElem hiG, hx]; rfl)
      have HSX := hid hsx
      have HOX := hid hox
      have hx1 : x.1.oneCell' = true := by rw [← hxx]; rfl
      have HX1 := hid hx1
      clear hcc hx hmem hsx hox hx1
      subst hxx
      go_wp2_with fail
      refine (text_any xs (.slice px xs.length cx) wr n HSX.out HOX.out hn).mono ?_; rintro e2 w2 ⟨rfl, hb2⟩
      have HO2 := hid (own_new HO.out hb2)
      have HB2 := hid (HB.out.trans (hb2.mono hsz))
      clear hb2 hcell
      go_wp2_with (at_builtin; refine wp_keep ?_)
      refine hid ?_
      have hz : Blk (w2.alloc (Obj.cells (rc (.slice px xs.length cx, xs)).toArray TR)) w2.heap.size (rc (.slice px xs.length cx, xs)) TR := heap_alloc_new w2 _
      have hzb := (Below.refl w2.heap.size w2).alloc (Nat.le_refl _) (Obj.cells (rc (.slice px xs.length cx, xs)).toArray TR)
      have hoz := own_new HO2.out hzb
      have hbz := HB2.out.trans (hzb.mono HB2.out.size)
      generalize hw3 : w2.alloc (Obj.cells (rc (.slice px xs.length cx, xs)).toArray TR) = w3 at hz hzb hoz hbz
      have hw4 : w2.alloc (Obj.cells #[.string (B (textP xs)), .slice px xs.length cx] TR) = w3 := hw3
      simp only [hw4]
      clear hw3 hw4
      refine wpList_append_rd rfl _ _ TRs rfl w.heap.size TR _ 2 40 Try.underlying57 infoR2 rfl (by decide) _ i (rcs (G.take i)) rfl hoz _ 1 (rc (.slice px xs.length cx, xs)) rfl (rd_row hz) (rc_one HX1.out) (by simp only [maxLen]; omega) (by omega) hbz.size ?_
      intro p2 c2 w4 ho4 hg4 _
      have HO4 := hid ho4
      have HB4 := hid (hbz.trans (own_below hoz hg4 hbz.size))
      clear ho4 hg4 hz hzb hoz hbz
      go_wp2_with fail
      case roundEnd => exact ⟨⟨i + 1, p2, c2, rfl, by go_num, by omega, by have := HO4.out; rw [HTK.out, rcs_append]; exact hid (by simpa [rcs] using this), HB4⟩, by simp [intOf]; omega⟩
    · have hlt2 : ¬ (i : Int) < (L.length : Int) := by omega
      have hie : i = L.length := by omega
      subst hie
      rw [List.take_of_length_le (by rw [HGL.out]; exact Nat.le_refl _)] at HO
      go_wp2_with fail
      refine (sortStable_any G w.heap.size _ wr (by rw [HGL.out]; exact HO.out) (fun x hx => (HG.out.2.2 x hx).one) (by rw [HGL.out]; omega) hsz).mono ?_
      rintro e1 w1 ⟨rfl, ho1, hb1⟩
      rw [HGL.out] at ho1
      have HO1 := hid ho1
      have HB1 := hid (HB.out.trans hb1)
      have hsz1 := HB1.out.size
      have HSS := hid (show ss (srt KR G) = srt textP L by rw [← HG.out.1]; exact srt_map (key := textP) (fun _ => rfl) G)
      have HSM := hid (show ∀ x ∈ srt KR G, SolAt w x.1 x.2 from fun x hx => HG.out.2.2 x (mem_srt.1 hx))
      have HSL := hid (show (srt KR G).length = L.length by rw [srt_len, HGL.out])
      clear ho1 hb1
      generalize srt KR G = S at HO1 HSS HSM HSL
      go_wp2_with fail
      go_loopw [6, 27] (fun vr vi w2 => ∃ (k : Nat) (p2 : Option Addr) (c2 : Nat), vr = .slice p2 k c2 ∧ vi = .int .i64 k ∧ k ≤ L.length ∧ Hid (w2.ownsRow w1.heap.size TL 1 (.slice p2 k c2) k (sv (S.take k))) ∧ Hid (Below w1.heap.size w1 w2)) (fun vr vi _ => L.length + 1 - (intOf vi).toNat)
      case atStart => exact ⟨0, none, 0, rfl, rfl, Nat.zero_le _, World.ownsRow_nil _ _ _ _, Below.refl _ _⟩
      case round =>
        obtain ⟨k, p2, c2, rfl, rfl, hk, HO2, HB2⟩ := hrel
        have hsz2 := HB2.out.size
        by_cases hlt : k < L.length
        · have hlt2 : (k : Int) < (L.length : Int) := by omega
          have hkS : k < S.length := by rw [HSL.out]; exact hlt
          obtain ⟨⟨xv, xs⟩, hx⟩ : ∃ x, S[k] = x := ⟨_, rfl⟩
          have hmem : (xv, xs) ∈ S := by rw [← hx]; exact List.getElem_mem hkS
          have hbw : Below w.heap.size w wr := HB1.out.trans (HB2.out.mono hsz1)
          obtain ⟨px, cx, rfl⟩ : ∃ px cx, xv = .slice px xs.length cx := (HSM.out _ hmem).shape
          have hrd := (Rd.of_own HO1.out).new HB2.out
          obtain ⟨b, off, rfl, hcc⟩ := Rd.addr hrd (by omega)
          have hc0 : wr.cell? ⟨b, off + k * 2, none⟩ = some (.string (B (textP xs))) := hcc (k * 2) _ (by have := rcs_get hkS 0 (by omega); rw [Nat.add_zero] at this; rw [this, hx]; rfl)
          have hc1 : wr.cell? ⟨b, off + k * 2 + 1, none⟩ = some (.slice px xs.length cx) := by rw [Nat.add_assoc]; exact hcc (k * 2 + 1) _ (by have := rcs_get hkS 1 (by omega); rw [this, hx]; rfl)
          have HTK := hid (show S.take (k + 1) = S.take k ++ [(.slice px xs.length cx, xs)] by rw [List.take_add_one, List.getElem?_eq_getElem hkS, hx]; rfl)
          have HBW := hid hbw
          clear hrd hcc hx hmem hbw
          go_wp2_with (at_builtin; refine wp_keep ?_)
          refine hid ?_
          have hzb1 := (Below.refl wr.heap.size wr).alloc (Nat.le_refl _) (Obj.cells (rc (.slice px xs.length cx, xs)).toArray TR)
          have hz1s : (wr.alloc (Obj.cells (rc (.slice px xs.length cx, xs)).toArray TR)).heap.size = wr.heap.size + 1 := by simp
          have hz : Blk ((wr.alloc (Obj.cells (rc (.slice px xs.length cx, xs)).toArray TR)).alloc (Obj.cells ([.slice px xs.length cx] : List Value).toArray TL)) (wr.heap.size + 1) [.slice px xs.length cx] TL := by rw [← hz1s]; exact heap_alloc_new _ _
          have hzb := hzb1.trans ((Below.refl _ _).alloc (by rw [hz1s]; omega) (Obj.cells ([.slice px xs.length cx] : List Value).toArray TL))
          have hoz := own_new HO2.out hzb
          have hbz := HB2.out.trans (hzb.mono hsz2)
          generalize hw3 : (wr.alloc (Obj.cells (rc (.slice px xs.length cx, xs)).toArray TR)).alloc (Obj.cells ([.slice px xs.length cx] : List Value).toArray TL) = w3 at hz hzb hoz hbz
          have hw4 : (wr.alloc (Obj.cells #[.string (B (textP xs)), .slice px xs.length cx] TR)).alloc (Obj.cells #[.slice px xs.length cx] TL) = w3 := hw3
          simp only [hw4]
          clear hw3 hw4 hzb1 hz1s
          refine wpList_append_rd rfl _ _ TS rfl w1.heap.size TL _ 1 24 Try.underlying24 infoL rfl (by decide) _ k (sv (S.take k)) rfl hoz _ 1 [.slice px xs.length cx] rfl (rd_sol hz) (by intro u hu; simp at hu; subst hu; rfl) (by simp only [maxLen]; omega) (by omega) hbz.size ?_
          intro p4 c4 w4 ho4 hg4 _
          have HO4 := hid ho4
          have HB4 := hid (hbz.trans (own_below hoz hg4 hbz.size))
          clear ho4 hg4 hz hzb hoz hbz hc0 hc1
          go_wp2_with fail
          case roundEnd => exact ⟨⟨k + 1, p4, c4, rfl, by go_num, by omega, by have := HO4.out; rw [HTK.out]; exact hid (by simpa [sv] using this), HB4⟩, by simp [intOf]; omega⟩
        · have hlt2 : ¬ (k : Int) < (L.length : Int) := by omega
          have hke : k = L.length := by omega
          subst hke
          rw [List.take_of_length_le (by rw [HSL.out]; exact Nat.le_refl _)] at HO2
          go_wp2_with fail
          have hown : SolsAt wr (.slice p2 L.length c2) (srt textP L) := by
            refine ⟨S, HSS.out, ?_, fun x hx => (HSM.out x hx).new (HB1.out.trans (HB2.out.mono hsz1))⟩
            rw [srt_len]
            exact Rd.of_own HO2.out
          have HOO := hid hown
          clear hown
          refine (own_any (srt textP L) _ wr HOO.out (by rw [srt_len]; exact hl) (fun s hs => by have := (HOK.out s (mem_srt.1 hs)).len; omega)).mono ?_
          rintro e3 w3 ⟨p3, c3, rfl, ho3, hb3⟩
          rw [srt_len] at ho3 ⊢
          have HO3 := hid ho3
          have HB3 := hid ((HB1.out.trans (HB2.out.mono hsz1)).trans (hb3.mono (by omega)))
          clear ho3 hb3
          go_wp2_with fail
          go_ret
          exact ⟨p3, c3, rfl, HO3.out.base (by omega), HB3.out⟩
end Go.Proofs.Ytkhdadbbgfjcgaa
