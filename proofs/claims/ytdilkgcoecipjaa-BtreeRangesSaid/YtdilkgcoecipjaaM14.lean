/- btree: change.leaf and change.at: a key is set, in any tree. btree: change.root and Set: a key is set, in any tree. -/
import Derived.Test.YtdilkgcoecipjaaM13
import Derived.Test.YtdilkgcoecipjaaM12
import Derived.Test.YtdilkgcoecipjaaM9
namespace Go.Proofs.Ytdilkgcoecipjaa
open Go.RowKit Go.Maps
set_option linter.unusedVariables false

theorem zip_maps (es : List En) : (es.map (·.1)).zip (es.map (·.2)) = es := by
  induction es with
  | nil => rfl
  | cons e es ih => simp [ih]
def lfN (es : List En) : Nd := ⟨true, es.map (·.1), es.map (·.2), []⟩
theorem costs_lf (es : List En) : costs (lfN es) = es.map (fun e => 2 + e.1.length + e.2.length) := by
  unfold costs lfN
  rw [if_pos rfl]
  show ((es.map (·.1)).zip (es.map (·.2))).map _ = _
  rw [zip_maps]
theorem sizeP_lf (es : List En) : sizeP (lfN es) = 2 + (es.map (fun e => 2 + e.1.length + e.2.length)).sum := by
  unfold sizeP
  rw [costs_lf]
  rfl
theorem okn_lf (es : List En) : OkN (lfN es) ↔ ∀ e ∈ es, e.1.length ≤ 140 ∧ e.1.length + e.2.length ≤ 150 := by
  unfold OkN lfN
  rw [if_pos rfl]
  have e : (es.map (·.1)).zip (es.map (·.2)) = es := zip_maps es
  constructor
  · intro h x hx
    exact h.2.2 x (by show x ∈ (es.map (·.1)).zip (es.map (·.2)); rw [e]; exact hx)
  · intro h
    refine ⟨by simp, rfl, fun x hx => h x ?_⟩
    have hx : x ∈ (es.map (·.1)).zip (es.map (·.2)) := hx
    rw [e] at hx
    exact hx
theorem setM_mem {es : List En} (hs : Srt es) {key val : Tx} {e : En} (he : e ∈ setM es key val) : e ∈ es ∨ e = (key, val) := by
  by_cases hc : isAt (es.map (·.1)) key = true
  · rw [setM_is hs hc] at he
    rcases List.mem_append.1 he with h | h
    · exact .inl (List.mem_of_mem_take h)
    · rcases List.mem_cons.1 h with h | h
      · exact .inr h
      · exact .inl (List.mem_of_mem_drop h)
  · rw [Bool.not_eq_true] at hc
    rw [setM_not hs hc] at he
    rcases List.mem_append.1 he with h | h
    · exact .inl (List.mem_of_mem_take h)
    · rcases List.mem_cons.1 h with h | h
      · exact .inr h
      · exact .inl (List.mem_of_mem_drop h)
theorem setM_ok {es : List En} (hs : Srt es) (ho : OkN (lfN es)) {key val : Tx} (h1 : key.length ≤ 140) (h2 : key.length + val.length ≤ 150) : OkN (lfN (setM es key val)) := by
  rw [okn_lf] at ho ⊢
  intro e he
  rcases setM_mem hs he with h | rfl
  · exact ho e h
  · exact ⟨h1, h2⟩
theorem setM_size {es : List En} (hs : Srt es) (ho : sizeP (lfN es) ≤ 504) {key val : Tx} (h2 : key.length + val.length ≤ 150) : sizeP (lfN (setM es key val)) ≤ 656 := by
  rw [sizeP_lf] at ho ⊢
  by_cases hc : isAt (es.map (·.1)) key = true
  · rw [setM_is hs hc]
    have hsp := sum_split (es.map (fun e => 2 + e.1.length + e.2.length)) (rk (es.map (·.1)) key)
    have hd : ((es.drop (rk (es.map (·.1)) key + 1)).map (fun e => 2 + e.1.length + e.2.length)).sum ≤ ((es.drop (rk (es.map (·.1)) key)).map (fun e => 2 + e.1.length + e.2.length)).sum := by
      have e : es.drop (rk (es.map (·.1)) key + 1) = (es.drop (rk (es.map (·.1)) key)).drop 1 := by rw [List.drop_drop]
      rw [e]
      cases es.drop (rk (es.map (·.1)) key) with
      | nil => simp
      | cons a l => simp
    rw [← List.map_take, ← List.map_drop] at hsp
    simp only [List.map_append, List.map_cons, List.sum_append, List.sum_cons]
    omega
  · rw [Bool.not_eq_true] at hc
    rw [setM_not hs hc]
    have hsp := sum_split (es.map (fun e => 2 + e.1.length + e.2.length)) (rk (es.map (·.1)) key)
    rw [← List.map_take, ← List.map_drop] at hsp
    simp only [List.map_append, List.map_cons, List.sum_append, List.sum_cons]
    omega
theorem lfN_not {es : List En} (hs : Srt es) {key val : Tx} (hc : isAt (es.map (·.1)) key = false) :
    lfN (setM es key val) = ⟨true, (es.map (·.1)).take (rk (es.map (·.1)) key) ++ key :: (es.map (·.1)).drop (rk (es.map (·.1)) key), (es.map (·.2)).take (rk (es.map (·.1)) key) ++ val :: (es.map (·.2)).drop (rk (es.map (·.1)) key), []⟩ := by
  rw [setM_not hs hc]
  simp [lfN, List.map_take, List.map_drop]
theorem lfN_is {es : List En} (hs : Srt es) {key val : Tx} (hc : isAt (es.map (·.1)) key = true) : lfN (setM es key val) = ⟨true, es.map (·.1), (es.map (·.2)).set (rk (es.map (·.1)) key) val, []⟩ := by
  rw [setM_is hs hc]
  obtain ⟨v, h1, h2⟩ := split_at hc
  have hlt := isAt_lt hc
  rw [List.length_map] at hlt
  unfold lfN
  congr 1
  · conv => rhs; rw [h1]
    simp only [List.map_append, List.map_cons]
  · rw [List.set_eq_take_append_cons_drop, if_pos (by rw [List.length_map]; exact hlt)]
    simp only [List.map_append, List.map_cons, List.map_take, List.map_drop]
theorem ndT_lf (t : Tr 0) : ndT 0 t = lfN t.2 := rfl

theorem leaf_set (t : Tr 0) (w : World) (c p dd : Nat) (F : Nat → Prop) (s : DS) (S T : AS) (N : Nat) (Nf : Nat → Option Nd) (U M : Nat) (key val : Tx) (was last : Bool) (lv : Nat) (B0 : Nat) (pk : Option Addr) (nk ck : Nat) (pv : Option Addr) (cv : Nat) (pd : Option Addr) (cd : Nat)
    (hch : Blk w c (chC p key val false was last lv) TCh) (hcF : ¬ F c) (hpre : Pre T Nf 0 t) (hpg : PgV w p dd F 1600 s S T true N) (hN : N + 4 ≤ 999990) (hsto : Sto T Nf U M none) (hM : M ≤ 1190) (hU : U + 1 ≤ M) (hkey : key.length ≤ 140) (hval : key.length + val.length ≤ 150)
    (hcB : c < B0) (hFB : ∀ k, F k → k < B0) (hB : B0 ≤ w.heap.size)
    (hok : w.ownsRow B0 TSt 1 (.slice pk nk ck) nk (tv (t.2.map (·.1)))) (hov : w.ownsRow B0 TSt 1 (.slice pv nk cv) nk (tv (t.2.map (·.2)))) (hne : NeB (.slice pk nk ck) (.slice pv nk cv)) (hod : Rd w 1 (.slice pd 0 cd) 0 []) (hlk : t.2.length = nk) (hnk : nk ≤ 251) :
    Calls Try.prog 59 #[.pointer (some ⟨c, 0, none⟩), .int .i64 (atT 0 t : Int), ndV true pk nk ck pv nk cv pd 0 cd] w (AtTo (fun k => F k ∨ k = c ∨ B0 ≤ k) 0 t w c p dd F s S T N Nf U M key val) := by
  obtain ⟨es, hes⟩ : ∃ es, t.2 = es := ⟨_, rfl⟩
  obtain ⟨pg, hpg0⟩ : ∃ pg, atT 0 t = pg := ⟨_, rfl⟩
  have hvw := hpre.vw _ _ hpre.on.node
  rw [ndT_lf, hes] at hvw
  obtain ⟨_, hok0, hs0, _⟩ := hvw
  have hsrt : Srt es := by
    have h := hpre.asc.srt
    rw [show toks 0 t = es.map ent by rw [← hes]; rfl, ents_leaf] at h
    exact h
  have hkp : (es.map (·.1)).Pairwise (fun a b => ltB a b = true) := by
    rw [List.pairwise_map]
    exact hsrt
  have hat : (Nf pg).isSome = true := by rw [← hpg0, hpre.on.node]; rfl
  have hents : ents (toks 0 t) = es := by rw [show toks 0 t = es.map ent by rw [← hes]; rfl, ents_leaf]
  have ho2 := setM_ok hsrt hok0 hkey hval
  have hz2 := setM_size hsrt hs0 (key := key) hval
  rw [hes] at hok hov hlk
  have hlk1 : (es.map (·.1)).length = nk := by rw [List.length_map]; exact hlk
  have hlk2 : (es.map (·.2)).length = nk := by rw [List.length_map]; exact hlk
  have hfin : ∀ (l : List (Nat × Tx)) (Nf2 : Nat → Option Nd) (U2 : Nat) (T2 : AS) (was2 last2 : Bool) (e : Ending) (w' : World), ChTo (fun k => F k ∨ k = c ∨ B0 ≤ k) 3 w c p dd F s S N T2 l key val false was2 last2 lv e w' → Wrote Nf U pg (lfN (setM es key val)) l Nf2 U2 → Sto T2 Nf2 U2 M none → T2.root = T.root → AtTo (fun k => F k ∨ k = c ∨ B0 ≤ k) 0 t w c p dd F s S T N Nf U M key val e w' := by
    intro l Nf2 U2 T2 was2 last2 e w' h1 h2 h3 h4
    obtain ⟨r, hr, hg, hf⟩ := leaf_got (N := Nf) (U := U) (t := t) (key := key) (val := val) (E := setM es key val) (by rw [hes]) (by rw [hes]; exact hsrt) (by rw [show t.1 = pg from hpg0]; exact hat) (l := l) (N' := Nf2) (U' := U2) (by rw [show t.1 = pg from hpg0]; exact h2)
    obtain ⟨q, F', N', e1, e2, e3, e4, e5⟩ := h1
    exact ⟨T2, r, Nf2, U2, was2, last2, lv, ⟨q, F', N', by rw [hr]; exact e1, by rw [hr]; exact e2, e3, by omega, e5⟩, by rw [hents]; exact hg, hf, by rw [hr]; exact wrote_len ho2 h2, h3, h4, wrote_u h2⟩
  rw [hpg0]
  by_cases hc : isAt (es.map (·.1)) key = true
  · have hlt := isAt_lt hc
    rw [hlk1] at hlt
    rw [lfN_is hsrt hc] at ho2 hz2 hfin
    refine (leaf_rep w c p dd F s S T N Nf U M key val was last lv pg (es.map (·.1)) (es.map (·.2)) B0 nk pk ck pv cv pd cd hch hcF hcB hFB hB hok hov hne hod hlk1 hlk2 hnk hkp (rk (es.map (·.1)) key) hlt rfl hc hpg (by omega) hsto hat ho2 hz2 (show sizeP ⟨true, es.map (·.1), es.map (·.2), []⟩ ≤ 504 from hs0) hM hU).mono ?_
    rintro e w' ⟨T2, l, Nf2, U2, last', h1, h2, h3, h4⟩
    exact hfin l Nf2 U2 T2 _ last' e w' h1 h2 h3 h4
  · rw [Bool.not_eq_true] at hc
    have hle := rk_le (es.map (·.1)) key
    rw [hlk1] at hle
    rw [lfN_not hsrt hc] at ho2 hz2 hfin
    refine (leaf_ins w c p dd F s S T N Nf U M key val was last lv pg (es.map (·.1)) (es.map (·.2)) B0 nk pk ck pv cv pd cd hch hcF hcB hFB hB hok hov hne hod hlk1 hlk2 hnk hkp (rk (es.map (·.1)) key) hle rfl hc hpg (by omega) hsto hat ho2 hz2 (show sizeP ⟨true, es.map (·.1), es.map (·.2), []⟩ ≤ 504 from hs0) hM hU).mono ?_
    rintro e w' ⟨T2, l, Nf2, U2, last', h1, h2, h3, h4⟩
    exact hfin l Nf2 U2 T2 _ last' e w' h1 h2 h3 h4

/-- what at wants of a leaf and of a node of kids, in one -/
def AtSub (d : Nat) : Prop :=
  ∀ (t : Tr d) (w : World) (c p dd : Nat) (F : Nat → Prop) (s : DS) (S T : AS) (N : Nat) (Nf : Nat → Option Nd) (U M : Nat) (key val : Tx) (was last : Bool) (lv : Nat), AtIn d t w c p dd F s S T N Nf U M key val was last lv → lv + d + 1 ≤ 64 →
      Calls Try.prog 46 #[.pointer (some ⟨c, 0, none⟩), .int .i64 (atT d t : Int)] w (AtTo (fun k => F k ∨ k = c) d t w c p dd F s S T N Nf U M key val)

set_option maxRecDepth 100000 in
set_option maxHeartbeats 8000000 in
/-- the page is read; then its node is changed -/
theorem at_of (d : Nat) (t : Tr d) (lf : Bool) (w : World) (c p dd : Nat) (F : Nat → Prop) (s : DS) (S T : AS) (N : Nat) (Nf : Nat → Option Nd) (U M : Nat) (key val : Tx) (was last : Bool) (lv : Nat) (h : AtIn d t w c p dd F s S T N Nf U M key val was last lv) (hlvb : lv + d + 1 ≤ 64) (hlf : (ndT d t).leaf = lf) (fn : Nat) (hfn : fn = if lf = true then 59 else 60)
    (hsub : ∀ (w3 : World) (B0 : Nat) (pk : Option Addr) (ck : Nat) (pv : Option Addr) (cv : Nat) (pd : Option Addr) (cd : Nat), Blk w3 c (chC p key val false was last (lv + 1)) TCh → PgV w3 p dd F 1600 s S T true N → c < B0 → (∀ k, F k → k < B0) → B0 ≤ w3.heap.size → NdOwn B0 w3 pk ck pv cv pd cd (ndT d t) →
      Calls Try.prog fn #[.pointer (some ⟨c, 0, none⟩), .int .i64 (atT d t : Int), ndV lf pk (ndT d t).keys.length ck pv (ndT d t).vals.length cv pd (ndT d t).kids.length cd] w3 (AtTo (fun k => F k ∨ k = c ∨ B0 ≤ k) d t w3 c p dd F s S T N Nf U M key val)) :
    Calls Try.prog 46 #[.pointer (some ⟨c, 0, none⟩), .int .i64 (atT d t : Int)] w (AtTo (fun k => F k ∨ k = c) d t w c p dd F s S T N Nf U M key val) := by
  obtain ⟨hB, hok, hs0, hk6⟩ := h.pre.vw _ _ h.pre.on.node
  obtain ⟨nd, hnd⟩ : ∃ n, ndT d t = n := ⟨_, rfl⟩
  obtain ⟨pg, hpg0⟩ : ∃ n, atT d t = n := ⟨_, rfl⟩
  rw [hnd] at hB hok hs0 hlf hsub
  rw [hpg0] at hB hsub ⊢
  have hcl := h.ch.lt
  have HB := hid hB
  have HOK := hid hok
  have HS0 := hid hs0
  have HCC := hid h.ch
  have HCF := hid h.ncF
  have HPG := hid h.pg
  have HFL := hid h.pg.lt
  have HSUB := hid hsub
  have HLF := hid hlf
  obtain ⟨y0, y1, y2, y3, y4, y5, y6, z4, z5, z6⟩ := ch_cells h.ch
  clear h hB hok hs0 hk6 hnd hpg0 hsub hlf
  go_enter Try.func46, Try.ntmps46
  go_wp2_with fail
  obtain ⟨w1, hw1⟩ : ∃ x, w.setCell ⟨c, 6, none⟩ (.int .i64 ((lv : Int) + 1)) = x := ⟨_, rfl⟩
  have hc1 : Chg (fun k => k = c) w w1 := by rw [← hw1]; exact Chg.setCell (fp := fun k => k = c) _ rfl _
  have HC1 : Hid (Blk w1 c (chC p key val false was last (lv + 1)) TCh) := hid (by rw [← hw1]; exact HCC.out.set 6 _)
  have HP1 := hid (HPG.out.chg hc1 (fun k hk h => HCF.out (h ▸ hk)))
  have HG1 := hid (hc1.mono (fq := fun k => F k ∨ k = c) (fun k _ h => .inr h))
  have hs1 := hc1.size
  rw [hw1]
  clear hw1 hc1 y0 y1 y2 y3 y4 y5 y6 z4 z5 z6
  refine (nread_any w1 p dd F 1600 s S T true N pg _ HP1.out HB.out HOK.out HS0.out).mono ?_
  rintro e2 w2 ⟨pk, ck, pv, cv, pd, cd, rfl, hown, hb2⟩
  rw [HLF.out]
  have hB0 := hb2.size
  have HO2 := hid hown
  have HC2 := hid (HC1.out.chg (Chg.new hb2 NoFp) (fun h => h))
  have HP2 := hid (HP1.out.new' hb2)
  have HG2 := hid (HG1.out.trans (Chg.new hb2 NoFp) (fun _ _ h => h.elim))
  clear hown hb2
  obtain ⟨y0, y1, y2, y3, y4, y5, y6, z4, z5, z6⟩ := ch_cells HC2.out
  have hcl2 : c < w2.heap.size := by omega
  have hlv2 : ¬ (64 : Int) < (lv : Int) + 1 := by omega
  unfold ndV at HSUB ⊢
  cases lf
  all_goals
    subst hfn
    go_wp2_with fail
    generalize hw3 : w2.alloc _ = w3
    have hal : Below w2.heap.size w2 w3 := by rw [← hw3]; exact (Below.refl _ _).alloc (Nat.le_refl _) _
    have hs3 := hal.size
    have HO3 := hid (HO2.out.new hal)
    have HC3 := hid (HC2.out.chg (Chg.new hal NoFp) (fun h => h))
    have HP3 := hid (HP2.out.new' hal)
    have HG3 := hid (HG2.out.trans (Chg.new hal NoFp) (fun _ _ h => h.elim))
    clear hw3 hal y0 y1 y2 y3 y4 y5 y6 z4 z5 z6
    refine (HSUB.out w3 w1.heap.size pk ck pv cv pd cd HC3.out HP3.out (by omega) (fun k hk => by have := HFL.out k hk; omega) (by omega) HO3.out).mono ?_
    rintro e4 w4 ⟨T2, r, Nf2, U2, was2, last2, lv2, ⟨q, F', N', rfl, hq, hv, hN', hc4, hF', hqF, hqw, hcc, hcF'⟩, hrest⟩
    have HFIN : Hid (AtTo (fun k => F k ∨ k = c) d t w c p dd F s S T N Nf U M key val (.returned (.tuple #[.slice (some ⟨q, 0, none⟩) (parts d r).length (parts d r).length, .int .i64 0])) w4) := hid
      ⟨T2, r, Nf2, U2, was2, last2, lv2, ⟨q, F', N', rfl, hq, hv, hN', HG3.out.trans hc4 (fun k hk h => by rcases h with h | h | h; exact .inl h; exact .inr h; omega), fun k hk => (hF' k hk).imp id (fun h => by omega), hqF, by omega, hcc, hcF'⟩, hrest⟩
    clear hq hv hN' hc4 hF' hqF hqw hcc hcF' hrest
    go_wp2_with fail
    go_ret2
    exact HFIN.out

theorem at_set : ∀ d, AtSub d
  | 0, t, w, c, p, dd, F, s, S, T, N, Nf, U, M, key, val, was, last, lv, h, hlvb => by
    refine at_of 0 t true w c p dd F s S T N Nf U M key val was last lv h hlvb rfl _ rfl ?_
    intro w3 B0 pk ck pv cv pd cd hc hp hcB hFB hB ho
    have hvw := h.pre.vw _ _ h.pre.on.node
    have hlen := (keys_lt hvw.2.1 hvw.2.2.1).1
    rw [ndT_lf] at ho hlen ⊢
    have e1 : (lfN t.2).keys.length = t.2.length := by simp [lfN]
    have e2 : (lfN t.2).vals.length = t.2.length := by simp [lfN]
    have hok := ho.keys
    have hov := ho.vals
    have hne := ho.ne
    have hod := Rd.of_own ho.kids
    rw [e1] at hok hne hlen
    rw [e2] at hov hne
    rw [e1, e2]
    exact leaf_set t w3 c p dd F s S T N Nf U M key val was last (lv + 1) B0 pk t.2.length ck pv cv pd cd hc h.ncF h.pre hp h.hN h.sto h.hM h.hU h.hkey h.hval hcB hFB hB hok hov hne hod rfl hlen
  | d + 1, t, w, c, p, dd, F, s, S, T, N, Nf, U, M, key, val, was, last, lv, h, hlvb => by
    obtain ⟨pg, t0, l, rfl⟩ : ∃ pg t0 l, t = inT pg (t0, l) := ⟨t.1, t.2.1, t.2.2, rfl⟩
    refine at_of (d + 1) (inT pg (t0, l)) false w c p dd F s S T N Nf U M key val was last lv h hlvb rfl _ rfl ?_
    intro w3 B0 pk ck pv cv pd cd hc hp hcB hFB hB ho
    have hvw := h.pre.vw _ _ h.pre.on.node
    have hlen := (keys_lt hvw.2.1 hvw.2.2.1).1
    have hkl := (okn_inr (by have := hvw.2.1; rw [ndT_in] at this; exact this)).1
    refine inner_set d (at_set d) pg t0 l w3 c p dd F s S T N Nf U M key val was last (lv + 1) B0 pk _ ck pv _ cv pd _ cd ⟨hc, h.ncF, h.pre, hp, h.hN, h.sto, h.hM, h.hU, h.hkey, h.hval⟩ (by omega) hcB hFB hB _ rfl (ho.at rfl) ?_ rfl rfl rfl hlen ?_
    · exact ⟨.inr (own_lt ho.keys), .inr (own_lt ho.vals), .inr (own_lt ho.kids)⟩
    · rw [ndT_in] at hlen ⊢
      have hlen : (keysR (t0, l)).length ≤ 251 := hlen
      show ((kidsR (t0, l)).map (atT d)).length ≤ 252
      omega
end Go.Proofs.Ytdilkgcoecipjaa

namespace Go.Proofs.Ytdilkgcoecipjaa
open Go.RowKit Go.Maps
set_option linter.unusedVariables false

/-- a tree as it stands on its pages -/
structure Std (T : AS) (Nf : Nat → Option Nd) (U : Nat) (d : Nat) (t : Tr d) : Prop where
  pre : Pre T Nf d t
  cnt : U = (pgs d t).length
/-- what a change leaves: another tree -/
def RtTo (m : Nat) (w : World) (p dd : Nat) (F fp : Nat → Prop) (s : DS) (S T : AS) (N M : Nat) (E : List En) (at2 : Nat) (w' : World) : Prop :=
  ∃ (T2 : AS) (d2 : Nat) (t2 : Tr d2) (Nf2 : Nat → Option Nd) (U2 : Nat) (F2 : Nat → Prop) (N2 : Nat), at2 = atT d2 t2 ∧ PgV w' p dd F2 1600 s S T2 true N2 ∧ N2 ≤ N + m ∧ Chg fp w w' ∧ (∀ k, F2 k → F k ∨ w.heap.size ≤ k) ∧ Sto T2 Nf2 U2 M none ∧ T2.root = T.root ∧ Std T2 Nf2 U2 d2 t2 ∧ ents (toks d2 t2) = E
theorem got_std {T T2 : AS} {Nf Nf2 : Nat → Option Nd} {U U2 d M : Nat} {t : Tr d} {key : Tx} {E : List En} {r : Row (Tr d)} (hs : Std T Nf U d t) (h : Got Nf U d t key E Nf2 U2 r) (hf : ∀ x ∈ kidsR r, Ful d x) (hst : Sto T2 Nf2 U2 M none) (hr : r.2 = []) :
    Std T2 Nf2 U2 d r.1 ∧ ents (toks d r.1) = E ∧ atT d r.1 = atT d t := by
  obtain ⟨r0, rl⟩ := r
  obtain rfl : rl = [] := hr
  have ha := h.asc
  have he := h.ents
  have hu := h.upd.nodup
  have hc := h.cnt
  rw [fl_one] at ha he
  rw [pgR_one] at hu hc
  have hm : r0 ∈ kidsR ((r0, []) : Row (Tr d)) := List.mem_cons_self ..
  refine ⟨⟨⟨h.on _ hm, .inr (hf _ hm), ha, hu, hst.vw⟩, ?_⟩, he, h.first⟩
  have := hs.cnt
  show U2 = (pgs d r0).length
  omega
/-- a new root over two trees -/
theorem got_root {T T2 T3 T4 : AS} {Nf Nf2 : Nat → Option Nd} {U U2 d M k : Nat} {t : Tr d} {key : Tx} {E : List En} {r : Row (Tr d)} (hs : Std T Nf U d t) (h : Got Nf U d t key E Nf2 U2 r) (hf : ∀ x ∈ kidsR r, Ful d x) (hr : r.2 ≠ []) (hk : Nf2 k = none)
    (hst : Sto T4 (updN Nf2 k (some (ndT (d + 1) (inT k r)))) (U2 + 1) M none) : Std T4 (updN Nf2 k (some (ndT (d + 1) (inT k r)))) (U2 + 1) (d + 1) (inT k r) ∧ ents (toks (d + 1) (inT k r)) = E := by
  have hkn : ∀ c ∈ kidsR r, ∀ j ∈ pgs d c, j ≠ k := fun c hc j hj e => by
    subst e
    have := (h.on c hc).used j hj
    rw [hk] at this; cases this
  refine ⟨⟨⟨on_in (updN_same _ _ _) (fun c hc => (h.on c hc).congr (fun j hj => updN_other (hkn c hc j hj))), .inr (ful_in hr hf), h.asc, ?_, hst.vw⟩, ?_⟩, h.ents⟩
  · rw [pgs_in]
    refine List.nodup_cons.2 ⟨fun hm => ?_, h.upd.nodup⟩
    obtain ⟨c, hc, hj⟩ := List.mem_flatMap.1 hm
    exact hkn c hc k hj rfl
  · rw [pgs_in, List.length_cons]
    have := h.cnt
    have := hs.cnt
    show U2 + 1 = (pgR d r).length + 1
    omega
theorem root_node {d k : Nat} {r : Row (Tr d)} : putN ⟨false, [], [], [0]⟩ 0 0 (parts d r) = ndT (d + 1) (inT k r) := by
  rw [ndT_in]
  unfold putN
  rw [parts_keys, parts_kids]
  simp
theorem root_ok {T2 : AS} {Nf2 : Nat → Option Nd} {d k : Nat} {r : Row (Tr d)} (hr : r.2.length ≤ 1) (hon : ∀ c ∈ kidsR r, On Nf2 d c) (hv : Vw T2 Nf2) (hk : ∀ y ∈ parts d r, y.2.length ≤ 140) : OkN (ndT (d + 1) (inT k r)) ∧ sizeP (ndT (d + 1) (inT k r)) ≤ 504 := by
  rw [ndT_in, sizeP_in]
  refine ⟨okn_mk (by rw [List.length_map, kidsR_length]) (parts_klen hk) (fun j hj => ?_), ?_⟩
  · obtain ⟨c, hc, rfl⟩ := List.mem_map.1 hj
    exact (hv _ _ (hon c hc).node).2.2.2
  · have := sum_lens (keysR r) (parts_klen hk)
    rw [List.length_map, kidsR_length]
    have e : (keysR r).length = r.2.length := by simp [keysR]
    omega

set_option maxRecDepth 100000 in
set_option maxHeartbeats 16000000 in
theorem root_set (d : Nat) (t : Tr d) (w : World) (c p dd : Nat) (F : Nat → Prop) (s : DS) (S T : AS) (N : Nat) (Nf : Nat → Option Nd) (U M : Nat) (key val : Tx) (was last : Bool) (lv : Nat) (at_ : Nat) (hat : atT d t = at_) (h : AtIn d t w c p dd F s S T N Nf U M key val was last lv) (hlvb : lv + d + 1 ≤ 64) (hstd : Std T Nf U d t) (hU : U + (d + 2) ≤ M) (hN2 : N + 4 * (d + 1) + 2 ≤ 999990) :
    Calls Try.prog 28 #[.pointer (some ⟨c, 0, none⟩), .int .i64 (at_ : Int)] w fun e w' => ∃ at2 : Nat, e = .returned (.tuple #[.int .i64 (at2 : Int), .int .i64 0]) ∧ RtTo (4 * (d + 1) + 2) w p dd F (fun k => F k ∨ k = c) s S T N M (setM (ents (toks d t)) key val) at2 w' := by
  have HA := hid (at_set d t w c p dd F s S T N Nf U M key val was last lv h hlvb)
  rw [hat] at HA
  have HH := hid h
  have HSTD := hid hstd
  have HAT := hid hat
  have hcl := h.ch.lt
  clear h hstd hat
  go_enter Try.func28, Try.ntmps28
  go_wp2_with fail
  refine wp_scope_goto 0 (rootJ (fun w1 => RtTo (4 * (d + 1) + 2) w p dd F (fun k => F k ∨ k = c) s S T N M (setM (ents (toks d t)) key val) at_ w1) c p key val at_) rfl ?pass ?first
  case first =>
    intro K hK
    go_wp2_with fail
    refine HA.out.mono ?_
    rintro e1 w1 ⟨T2, r, Nf2, U2, was2, last2, lv2, ⟨q, F1, N1, rfl, hq, hv, hN1, hc1, hF1, hqF, hqw, hcc, hcF1⟩, hgot, hful, hkl2, hst2, hr2, hu2⟩
    have HCC := hid hcc
    have HGOT := hid hgot
    have HFUL := hid hful
    have HKL := hid hkl2
    have HST := hid (And.intro hst2 hr2)
    have HQ := hid hq
    have HP1 := hid hv
    have HG1 := hid hc1
    have HF1 := hid hF1
    have HCF1 := hid hcF1
    have HQF := hid hqF
    have hz1 := hc1.size
    obtain ⟨m, hm⟩ : ∃ m, (parts d r).length = m := ⟨_, rfl⟩
    rw [hm]
    have HM := hid hm
    have hm12 : m = 1 ∨ m = 2 := by rw [← hm, parts_len]; have := hgot.short; omega
    clear hcc hgot hful hkl2 hst2 hr2 hq hv hc1 hF1 hqF hcF1 hm
    rcases hm12 with rfl | rfl
    · go_wp2_with fail
      refine wp_label ?_
      simp only [Exit.then]
      rename_i hK'
      have hrn : r.2 = [] := List.eq_nil_of_length_eq_zero (by have := HM.out; rw [parts_len] at this; omega)
      have hstd2 := got_std HSTD.out HGOT.out HFUL.out HST.out.1 hrn
      refine hK' _ _ (hK _ _ _ (rootJ_mk rfl rfl rfl rfl (hid ⟨T2, d, r.1, Nf2, U2, F1, N1, by rw [hstd2.2.2, HAT.out], HP1.out, by omega, HG1.out, HF1.out, HST.out.1, HST.out.2, hstd2.1, hstd2.2.1⟩) HCC))
    · obtain ⟨y0, y1, y2, y3, y4, y5, y6, z4, z5, z6⟩ := ch_cells HCC.out
      have hrn : r.2 ≠ [] := fun h0 => by have := HM.out; rw [parts_len, h0] at this; simp at this
      obtain ⟨k, T3, hnew, hk0, hk6, hs3, hB3, hr3⟩ := HST.out.1.new HH.out.hM (by omega)
      have hok := root_ok (k := k) HGOT.out.short HGOT.out.on HST.out.1.vw HKL.out
      obtain ⟨T4, hput, hs4, hr4, _⟩ := hs3.put (.inr rfl) hB3 _ hok.1 hok.2 hk6
      have hstd2 := got_root (T2 := T2) (T3 := T3) HSTD.out HGOT.out HFUL.out hrn hk0 hs4
      have HNEW := hid hnew
      have HPUT := hid hput
      have HOK := hid hok
      have HFIN := hid (show Sto T4 (updN Nf2 k (some (ndT (d + 1) (inT k r)))) (U2 + 1) M none ∧ T4.root = T.root ∧ Std T4 (updN Nf2 k (some (ndT (d + 1) (inT k r)))) (U2 + 1) (d + 1) (inT k r) ∧ ents (toks (d + 1) (inT k r)) = setM (ents (toks d t)) key val from ⟨hs4, by rw [hr4, hr3, HST.out.2], hstd2.1, hstd2.2⟩)
      clear hnew hk0 hk6 hs3 hB3 hr3 hok hput hs4 hr4 hstd2 hrn
      go_wp2_with fail
      refine (HP1.out.new (by omega)).mono ?_
      rw [HNEW.out]
      rintro e2 w2 ⟨rfl, F2, N2, hv2, hN2', hc2, hF2⟩
      have HP2 := hid hv2
      have HG2 := hid (HG1.out.trans hc2 (fun x hx h => by rcases HF1.out x h with h2 | h2; exact .inl h2; exact absurd hx (by omega)))
      have HC2 := hid (HCC.out.chg hc2 HCF1.out)
      have HQ2 := hid (HQ.out.chg hc2 HQF.out)
      have HF2 : Hid (∀ x, F2 x → F x ∨ w.heap.size ≤ x) := hid (fun x h => by rcases hF2 x h with h2 | h2; exact HF1.out x h2; exact .inr (by omega))
      have hz2 := hc2.size
      have hNN2 : N2 ≤ N + 4 * (d + 1) + 1 := by omega
      clear hv2 hN2' hc2 hF2 y0 y1 y2 y3 y4 y5 y6 z4 z5 z6
      go_wp2_with fail
      obtain ⟨zz, hzz⟩ : ∃ x, w2.drew = x := ⟨_, rfl⟩
      have hbz : Below w2.heap.size w2 zz := by rw [← hzz]; exact below_drewN (Below.refl _ _) 1
      have HCz := hid (HC2.out.chg (Chg.new hbz NoFp) (fun h => h))
      have HQz := hid (HQ2.out.chg (Chg.new hbz NoFp) (fun h => h))
      have HPz := hid (HP2.out.new' hbz)
      have HGz := hid (HG2.out.trans (Chg.new hbz NoFp) (fun _ _ h => h.elim))
      have hzz2 := hbz.size
      clear hbz
      refine wp_region_plan3 (fun w' => Blk w' c (chC p key val false was2 last2 lv2) TCh) (fun j => !([6, 9, 10, 11].contains j)) (fun j => [4].contains j) (fun _ => false)
        (.cons 0 (.cons 1 (.cons 2 (.cons 3 (.cons 4 (.cons 5 (.cons 8 (.cons 6 (.cons 7 (.cons 9 (.cons 10 (.cons 11 (.cons 12 (.cons 13 .nil)))))))))))))) (by kernel_rfl) (by kernel_rfl) rfl (by kernel_rfl) (by kernel_rfl) (by rw [hzz]; exact HCz.out) ?_
      iterate 7 (apply wpPlan3_val; (case ho => rfl); (case hst => rfl); (case hw => rfl); (case hv => intro w' hS; (try (have hS := hS rfl; obtain ⟨y0, y1, y2, y3, y4, y5, y6, _, _, _⟩ := ch_cells hS)); go_simp; first | done | rfl); intro K hK; go_simp; refine hK _ ?_; clear hK K)
      rw [hzz]
      clear hzz
      refine wpPlan3_list rfl rfl rfl (fun K hK => ?_)
      refine wpList_step (fun K2 hK2 => ?_)
      go_simp
      refine hK2 _ _ ?_
      clear hK2 K2
      simp only [wpList]
      obtain ⟨b5, hb5⟩ : ∃ b, zz.heap.size = b := ⟨_, rfl⟩
      obtain ⟨w5, hw5⟩ : ∃ x, zz.alloc (.cells #[.int .i64 0] TI) = x := ⟨_, rfl⟩
      have hal5 : Below zz.heap.size zz w5 := by rw [← hw5]; exact (Below.refl _ _).alloc (Nat.le_refl _) _
      have HR5 := hid (show Rd w5 1 (.slice (some ⟨b5, 0, none⟩) 1 1) 1 (kv [0]) from by rw [← hw5, ← hb5]; exact Rd.fresh1 _ _ _)
      rw [hw5]
      rw [hb5]
      have HC5 := hid (HCz.out.chg (Chg.new hal5 NoFp) (fun h => h))
      have HQ5 := hid (HQz.out.chg (Chg.new hal5 NoFp) (fun h => h))
      have HP5 := hid (HPz.out.new' hal5)
      have HG5 := hid (HGz.out.trans (Chg.new hal5 NoFp) (fun _ _ h => h.elim))
      have hz5 := hal5.size
      clear hal5 hw5 hb5
      refine hK _ _ (fun _ => HC5.out) ?_
      clear hK K
      (apply wpPlan3_val; (case ho => rfl); (case hst => rfl); (case hw => rfl); (case hv => intro w' hS; go_simp; first | done | rfl); intro K hK; go_simp; refine hK _ ?_; clear hK K)
      refine wpPlan3_list rfl rfl rfl (fun K hK => ?_)
      refine wpList_step (fun K2 hK2 => ?_)
      go_simp
      have hl2 := HM.out
      refine (show Calls Try.prog 47 #[ndV false none 0 0 none 0 0 (some ⟨b5, 0, none⟩) 1 1, .int .i64 ((0 : Nat) : Int), .int .i64 ((0 : Nat) : Int), .slice (some ⟨q, 0, none⟩) 2 2] w5 _ from by rw [← hl2]; exact nput_any w5 ⟨false, [], [], [0]⟩ false none 0 0 none 0 0 (some ⟨b5, 0, none⟩) 1 1 0 0 q (parts d r) ⟨rfl, Rd.nil _ _, Rd.nil _ _, HR5.out⟩ rfl rfl rfl HQ5.out (Nat.le_refl _) (Nat.le_refl _) (Nat.le_refl _) (by omega) (by omega) (by omega)).mono ?_
      rintro e6 w6 ⟨pa, ca, pe, ce, rfl, hnd6, hb6⟩
      rw [root_node (k := k)] at hnd6 ⊢
      obtain ⟨nd6, hnd6e⟩ : ∃ n, ndT (d + 1) (inT k r) = n := ⟨_, rfl⟩
      have HE6 := hid hnd6e
      rw [hnd6e] at hnd6 ⊢
      unfold ndV
      go_simp
      refine hK2 _ _ ?_
      clear hK2 K2
      simp only [wpList]
      have HD6 := hid hnd6
      have HC6 := hid (HC5.out.chg (Chg.new hb6 NoFp) (fun h => h))
      have HP6 := hid (HP5.out.new' hb6)
      have HG6 := hid (HG5.out.trans (Chg.new hb6 NoFp) (fun _ _ h => h.elim))
      have hz6 := hb6.size
      clear hnd6 hnd6e hb6 hl2
      refine hK _ _ (fun _ => HC6.out) ?_
      clear hK K
      refine wpPlan3_list rfl rfl rfl (fun K hK => ?_)
      refine wpList_step (fun K2 hK2 => ?_)
      go_simp
      have hvn6 : nd6.vals = [] := by rw [← HE6.out, ndT_in]
      have hlf6 : nd6.leaf = false := by rw [← HE6.out, ndT_in]
      have hsz6 : sizeP nd6 ≤ 504 := by rw [← HE6.out]; exact HOK.out.2
      refine (bytes_any w6 nd6 false pa nd6.keys.length ca none 0 0 pe nd6.kids.length ce HD6.out rfl (by rw [hvn6]; rfl) rfl (fun h => by rw [hlf6] at h; cases h) (by omega)).mono ?_
      rintro e7 w7 ⟨pb7, cb7, rfl, hob7, hal7⟩
      go_simp
      refine hK2 _ _ ?_
      clear hK2 K2
      simp only [wpList]
      have HO7 := hid (Rd.of_own hob7)
      have HC7 := hid (HC6.out.chg (Chg.new hal7 NoFp) (fun h => h))
      have HP7 := hid (HP6.out.new' hal7)
      have HG7 := hid (HG6.out.trans (Chg.new hal7 NoFp) (fun _ _ h => h.elim))
      have hz7 := hal7.size
      clear hob7 hal7
      refine hK _ _ (fun _ => HC7.out) ?_
      clear hK K
      refine wpPlan3_list rfl rfl rfl (fun K hK => ?_)
      refine wpList_step (fun K2 hK2 => ?_)
      go_simp
      refine (HP7.out.put (k : Int) _ (enc nd6) HO7.out (by rw [enc_length]; omega) (by omega)).mono ?_
      rw [← HE6.out, HPUT.out]
      rintro e8 w8 ⟨rfl, F8, N8, hv8, hN8, hc8, hF8⟩
      go_simp
      refine hK2 _ _ ?_
      clear hK2 K2
      simp only [wpList]
      have hcF2 : ¬ F2 c := fun h => by rcases HF2.out c h with h2 | h2; exact HH.out.ncF h2; omega
      have HC8 := hid (HC7.out.chg hc8 hcF2)
      have HG8 := hid (HG7.out.trans hc8 (fun x hx h => by rcases HF2.out x h with h2 | h2; exact .inl h2; exact absurd hx (by omega)))
      have HF8 : Hid (∀ x, F8 x → F x ∨ w.heap.size ≤ x) := hid (fun x h => by rcases hF8 x h with h2 | h2; exact HF2.out x h2; exact .inr (by omega))
      have HP8 := hid hv8
      have hNN8 : N8 ≤ N + (4 * (d + 1) + 2) := by omega
      clear hv8 hN8 hc8 hF8
      refine hK _ _ (fun _ => HC8.out) ?_
      clear hK K
      iterate 2 (apply wpPlan3_val; (case ho => rfl); (case hst => rfl); (case hw => rfl); (case hv => intro w' hS; go_simp; first | done | rfl); intro K hK; go_simp; refine hK _ ?_; clear hK K)
      refine wpPlan3_nil ?_
      simp only [Qn]
      go_wp2_with fail
      go_ret2
      exact ⟨k, rfl, T4, d + 1, inT k r, _, U2 + 1, F8, N8, rfl, HP8.out, hNN8, HG8.out, HF8.out, HFIN.out⟩
  case pass =>
    rintro m a wr ⟨was, last, lv, u, HFIN, HCC, u0, u1, rfl⟩ K hK
    rw [u0, u1]
    clear u0 u1
    obtain ⟨y0, y1, y2, y3, y4, y5, y6, z4, z5, z6⟩ := ch_cells HCC.out
    go_wp2_with fail
    go_loopw [1] (fun v1 wr2 => v1 = .int .i64 (at_ : Int) ∧ wr2 = wr) (fun _ _ => 0)
    case atStart => exact ⟨rfl, rfl⟩
    case round =>
      obtain ⟨rfl, rfl⟩ := hrel
      go_wp2_with fail
      try rw [Exit.jump_ret]
      go_ret2
      exact ⟨at_, rfl, HFIN.out⟩

set_option maxRecDepth 100000 in
set_option maxHeartbeats 8000000 in
theorem bset_any (d : Nat) (t : Tr d) (w : World) (p dd : Nat) (F : Nat → Prop) (s : DS) (S T : AS) (N : Nat) (Nf : Nat → Option Nd) (U M : Nat) (key val : Tx) (at_ : Nat) (hat : atT d t = at_)
    (hk1 : key.length ≤ 140) (hk2 : key.length + val.length ≤ 150) (h0 : 0 ≤ T.root) (h1 : T.root ≤ 9223372036854775807) (hstd : Std T Nf U d t) (hpg : PgV w p dd F 1600 s S T true N) (hN : N + 4 * (d + 1) + 3 ≤ 999990) (hst : Sto T Nf U M none) (hM : M ≤ 1190) (hU : U + (d + 2) ≤ M) (hd : d ≤ 63) :
    Calls Try.prog 10 #[.pointer (some ⟨p, 0, none⟩), .int .i64 (at_ : Int), .string (B key), .string (B val)] w fun e w' => ∃ at2 : Nat, e = .returned (.tuple #[.int .i64 (at2 : Int), .int .i64 0]) ∧ RtTo (4 * (d + 1) + 3) w p dd F F s S T N M (setM (ents (toks d t)) key val) at2 w' := by
  have HOP := hid (bopen_any w p dd F s S T N hpg h0 h1)
  have HST := hid hst
  have HSTD := hid hstd
  have HAT := hid hat
  have HFL := hid hpg.lt
  have h3 : ¬ (140 : Int) < (key.length : Int) := by omega
  have h4 : ¬ (150 : Int) < (key.length : Int) + (val.length : Int) := by omega
  clear hpg hst hstd hat h0 h1
  go_enter Try.func10, Try.ntmps10
  go_wp2_with fail
  refine HOP.out.mono ?_
  rintro e1 w1 ⟨rfl, F1, N1, hv1, hN1, hc1, hF1⟩
  have HV1 := hid hv1
  have HC1 := hid hc1
  have HF1 := hid hF1
  clear hv1 hc1 hF1
  go_wp2_with fail
  obtain ⟨c, hcn⟩ : ∃ b, w1.heap.size = b := ⟨_, rfl⟩
  obtain ⟨w2, hw2⟩ : ∃ x, w1.alloc (.cells #[.pointer (some ⟨p, 0, none⟩), .string (B key), .string (B val), .bool false, .bool false, .bool true, .int .i64 0] 64) = x := ⟨_, rfl⟩
  have hal : Below w1.heap.size w1 w2 := by rw [← hw2]; exact (Below.refl _ _).alloc (Nat.le_refl _) _
  have hcc : Blk w2 c (chC p key val false false true 0) TCh := by rw [← hw2, ← hcn]; exact heap_alloc_new _ _
  rw [hw2, hcn]
  have hs1 := HC1.out.size
  have hs2 := hal.size
  refine (root_set d t w2 c p dd F1 s S T N1 Nf U M key val false true 0 at_ HAT.out ⟨hcc, fun h => by have := HV1.out.lt c h; omega, HSTD.out.pre, HV1.out.new' hal, by omega, HST.out, hM, by omega, hk1, hk2⟩ (by omega) HSTD.out hU (by omega)).mono ?_
  rintro e3 w3 ⟨at2, rfl, T2, d2, t2, Nf2, U2, F3, N3, ha2, hv3, hN3, hc3, hF3, hrest⟩
  have HFIN : Hid (RtTo (4 * (d + 1) + 3) w p dd F F s S T N M (setM (ents (toks d t)) key val) at2 w3) := hid
    ⟨T2, d2, t2, Nf2, U2, F3, N3, ha2, hv3, by omega, (HC1.out.trans (Chg.new hal NoFp) (fun _ _ h => h.elim)).trans hc3 (fun k hk h => by
        rcases h with h | h
        · rcases HF1.out k h with h2 | h2
          · exact h2
          · omega
        · omega), fun k hk => by
        rcases hF3 k hk with h | h
        · exact HF1.out k h
        · exact .inr (by omega), hrest⟩
  clear ha2 hv3 hN3 hc3 hF3 hrest
  go_wp2_with fail
  go_ret2
  exact ⟨at2, rfl, HFIN.out⟩
end Go.Proofs.Ytdilkgcoecipjaa
