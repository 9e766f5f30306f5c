/- nodes of kids with parts in the place of a kid: plain laws. btree: change.inner: a key is set beneath. -/
import Derived.Test.YtdilkgcoecipjaaBtWa
import Derived.Test.YtdilkgcoecipjaaBtPu
namespace Go.Proofs.Ytdilkgcoecipjaa
set_option linter.unusedVariables false

theorem parts_keys (d : Nat) (r : Row (Tr d)) : ((parts d r).drop 1).map (·.2) = keysR r := by simp [parts, keysR]
theorem parts_kids (d : Nat) (r : Row (Tr d)) : (parts d r).map (·.1) = (kidsR r).map (atT d) := by simp [parts, kidsR]
theorem parts_len (d : Nat) (r : Row (Tr d)) : (parts d r).length = r.2.length + 1 := by simp [parts]
theorem keysR_len {α : Type} (t0 : α) (l : List (Tx × α)) : (keysR (t0, l)).length = l.length := by simp [keysR]
theorem putN_tree {d pg i : Nat} {t0 : Tr d} {l : List (Tx × Tr d)} {r : Row (Tr d)} (hi : i ≤ l.length) : putN (ndT (d + 1) (inT pg (t0, l))) i i (parts d r) = ndT (d + 1) (inT pg (rput t0 l i r)) := by
  rw [ndT_in, ndT_in, rput_keys t0 l i r hi, rput_kids t0 l i r hi]
  unfold putN
  rw [parts_keys, parts_kids]
  simp only [List.map_append, List.map_take, List.map_drop]
theorem putN_join {d pg i : Nat} {t0 : Tr d} {l : List (Tx × Tr d)} {r : Row (Tr d)} (hi : i < l.length) : putN (ndT (d + 1) (inT pg (t0, l))) i (i + 1) (parts d r) = ndT (d + 1) (inT pg (rjoin t0 l i r)) := by
  rw [ndT_in, ndT_in, rjoin_keys t0 l i r hi, rjoin_kids t0 l i r hi]
  unfold putN
  rw [parts_keys, parts_kids]
  simp only [List.map_append, List.map_take, List.map_drop]
theorem sizeP_in (keys : List Tx) (kids : List Nat) : sizeP ⟨false, keys, [], kids⟩ = 2 + 2 * kids.length + (keys.map (fun k => 1 + k.length)).sum := by simp [sizeP, costs]
theorem okn_inr {keys : List Tx} {kids : List Nat} (h : OkN ⟨false, keys, [], kids⟩) : kids.length = keys.length + 1 ∧ (∀ k ∈ keys, k.length ≤ 140) ∧ ∀ k ∈ kids, k < 65536 := by
  unfold OkN at h
  simp only [Bool.false_eq_true, if_false] at h
  exact h.2
theorem okn_mk {keys : List Tx} {kids : List Nat} (h : kids.length = keys.length + 1) (h1 : ∀ k ∈ keys, k.length ≤ 140) (h2 : ∀ k ∈ kids, k < 65536) : OkN ⟨false, keys, [], kids⟩ := by
  unfold OkN
  simp only [Bool.false_eq_true, if_false]
  exact ⟨trivial, h, h1, h2⟩
theorem put_ok {d pg i : Nat} {t0 : Tr d} {l : List (Tx × Tr d)} {r : Row (Tr d)} (hi : i ≤ l.length) (h : OkN (ndT (d + 1) (inT pg (t0, l)))) (h1 : ∀ k ∈ keysR r, k.length ≤ 140) (h2 : ∀ c ∈ kidsR r, atT d c < 65536) : OkN (ndT (d + 1) (inT pg (rput t0 l i r))) := by
  rw [ndT_in] at h ⊢
  obtain ⟨k1, k2, k3⟩ := okn_inr h
  refine okn_mk (by rw [List.length_map, kidsR_length]) (fun k hk => ?_) (fun k hk => ?_)
  · rw [rput_keys t0 l i r hi] at hk
    rcases List.mem_append.1 hk with hk | hk
    · rcases List.mem_append.1 hk with hk | hk
      · exact k2 k (List.mem_of_mem_take hk)
      · exact h1 k hk
    · exact k2 k (List.mem_of_mem_drop hk)
  · rw [rput_kids t0 l i r hi] at hk
    obtain ⟨c, hc, rfl⟩ := List.mem_map.1 hk
    rcases List.mem_append.1 hc with hc | hc
    · rcases List.mem_append.1 hc with hc | hc
      · exact k3 _ (List.mem_map.2 ⟨c, List.mem_of_mem_take hc, rfl⟩)
      · exact h2 c hc
    · exact k3 _ (List.mem_map.2 ⟨c, List.mem_of_mem_drop hc, rfl⟩)
theorem sum_lens : ∀ ks : List Tx, (∀ k ∈ ks, k.length ≤ 140) → (ks.map (fun k => 1 + k.length)).sum ≤ 141 * ks.length
  | [], _ => by simp
  | k :: ks, h => by
    have h1 := h k (List.mem_cons_self ..)
    have h2 := sum_lens ks (fun x hx => h x (List.mem_cons_of_mem _ hx))
    rw [List.map_cons, List.sum_cons, List.length_cons]
    omega
theorem put_size {d pg i : Nat} {t0 : Tr d} {l : List (Tx × Tr d)} {r : Row (Tr d)} (hi : i ≤ l.length) (hs : sizeP (ndT (d + 1) (inT pg (t0, l))) ≤ 504) (h1 : ∀ k ∈ keysR r, k.length ≤ 140) (hr : r.2.length ≤ 1) : sizeP (ndT (d + 1) (inT pg (rput t0 l i r))) ≤ 647 := by
  rw [ndT_in, sizeP_in] at hs ⊢
  rw [List.length_map, kidsR_length] at hs ⊢
  have e : ∀ r : Row (Tr d), (keysR r).length = r.2.length := fun r => by simp [keysR]
  rw [e] at hs ⊢
  rw [rput_len hi, rput_keys t0 l i r hi]
  have hsp := sum_split ((keysR (t0, l)).map (fun k => 1 + k.length)) i
  rw [← List.map_take, ← List.map_drop] at hsp
  simp only [List.map_append, List.sum_append]
  have hk : ((keysR r).map (fun k => 1 + k.length)).sum ≤ 141 * r.2.length := by
    have h := sum_lens (keysR r) h1
    rw [e] at h
    exact h
  simp only at hs
  omega
theorem wrote_len {Nf Nf2 : Nat → Option Nd} {U U2 at_ : Nat} {nd : Nd} {l : List (Nat × Tx)} (hok : OkN nd) (h : Wrote Nf U at_ nd l Nf2 U2) : ∀ x ∈ l, x.2.length ≤ 140 := by
  rcases h with ⟨rfl, _, _⟩ | ⟨A, C, k, to, rfl, _, _, _, hh⟩
  · intro x hx; rw [List.mem_singleton.1 hx]; simp
  · have hk : k.length ≤ 140 := by
      cases hl : nd.leaf with
      | true =>
        obtain ⟨i, _, hi, _, _, hk⟩ := hh.leaf hl
        have hv := (okn_leaf hok hl).1
        unfold OkN at hok
        rw [if_pos hl] at hok
        obtain ⟨h1, h2⟩ := List.getElem?_eq_some_iff.1 hk
        have h3 := (hok.2.2 (nd.keys[i], nd.vals[i]'(by omega)) (List.mem_of_getElem? (i := i) (List.getElem?_zip_eq_some.2 ⟨List.getElem?_eq_getElem h1, List.getElem?_eq_getElem (by omega)⟩))).1
        rw [← h2]; exact h3
      | false =>
        obtain ⟨i, _, hi, _, _, hk⟩ := hh.inner hl
        unfold OkN at hok
        rw [if_neg (by rw [hl]; simp)] at hok
        exact hok.2.2.1 k (List.mem_of_getElem? hk)
    intro x hx
    rcases List.mem_cons.1 hx with rfl | hx
    · simp
    · rw [List.mem_singleton.1 hx]; exact hk
theorem parts_klen {d : Nat} {r : Row (Tr d)} (h : ∀ x ∈ parts d r, x.2.length ≤ 140) : ∀ k ∈ keysR r, k.length ≤ 140 := by
  intro k hk
  rw [← parts_keys] at hk
  obtain ⟨x, hx, rfl⟩ := List.mem_map.1 hk
  exact h x (List.mem_of_mem_drop hx)
theorem got_kids {N N' : Nat → Option Nd} {U U' d : Nat} {t : Tr d} {key : Tx} {E : List En} {r : Row (Tr d)} {T : AS} (h : Got N U d t key E N' U' r) (hv : Vw T N') : ∀ c ∈ kidsR r, atT d c < 65536 :=
  fun c hc => (hv _ _ (h.on c hc).node).2.2.2
/-- what a change knows of its tree -/
structure Pre (T : AS) (Nf : Nat → Option Nd) (d : Nat) (t : Tr d) : Prop where
  on : On Nf d t
  fit : Fit d t
  asc : Asc (toks d t)
  nodup : (pgs d t).Nodup
  vw : Vw T Nf
theorem Pre.ful {T : AS} {Nf : Nat → Option Nd} {d : Nat} {t : Tr (d + 1)} (h : Pre T Nf (d + 1) t) : Ful (d + 1) t := h.fit.resolve_left (by omega)
theorem Pre.kid {T : AS} {Nf : Nat → Option Nd} {d : Nat} {t : Tr (d + 1)} (h : Pre T Nf (d + 1) t) {x : Tr d} (hx : x ∈ kidsR t.2) : Pre T Nf d x := by
  obtain ⟨pg, t0, l, rfl⟩ : ∃ pg t0 l, t = inT pg (t0, l) := ⟨t.1, t.2.1, t.2.2, rfl⟩
  have hx : x ∈ kidsR (t0, l) := hx
  have hn := h.nodup
  rw [pgs_in] at hn
  have ha := h.asc
  rw [toks_in] at ha
  refine ⟨h.on.2 x hx, .inr (h.ful.2 x hx), asc_kid (toks d) ha hx, ?_, h.vw⟩
  obtain ⟨i, hi⟩ := List.mem_iff_getElem?.1 hx
  have e : (kidsR (t0, l)).flatMap (pgs d) = ((kidsR (t0, l)).take i).flatMap (pgs d) ++ (pgs d x ++ ((kidsR (t0, l)).drop (i + 1)).flatMap (pgs d)) := by
    conv => lhs; rw [kids_split hi]
    rw [List.flatMap_append, List.flatMap_cons]
  have hn2 := (List.nodup_cons.1 hn).2
  rw [e] at hn2
  exact (List.nodup_append.1 (List.nodup_append.1 hn2).2.1).1
section
variable {T T2 : AS} {Nf Nf2 : Nat → Option Nd} {U U2 d : Nat} {pg : Nat} {t0 : Tr d} {l : List (Tx × Tr d)} {key val : Tx} {x : Tr d} {r : Row (Tr d)}
theorem down_len (hx : (kidsR (t0, l))[downP (keysR (t0, l)) key]? = some x) : downP (keysR (t0, l)) key ≤ l.length := by
  have := (List.getElem?_eq_some_iff.1 hx).1
  rw [kidsR_length, keysR_len] at this
  omega
theorem set_mid (h : Pre T Nf (d + 1) (inT pg (t0, l))) (hx : (kidsR (t0, l))[downP (keysR (t0, l)) key]? = some x) (hg : Got Nf U d x key (setM (ents (toks d x)) key val) Nf2 U2 r) :
    Mid Nf U d (inT pg (t0, l)) key (setM (ents (toks (d + 1) (inT pg (t0, l)))) key val) Nf2 U2 (inT pg (rput t0 l (downP (keysR (t0, l)) key) r)) :=
  mid_of (f := fun es => setM es key val) (fun A X C hA hC => setM_in hA hC val) h.on h.asc h.nodup hx hg
/-- the kid's page is as it was: its node is turned, this one is not -/
theorem mid_one {f : List En → List En} (h : Pre T Nf (d + 1) (inT pg (t0, l))) (hx : (kidsR (t0, l))[downP (keysR (t0, l)) key]? = some x) {E : List En} (hg : Got Nf U d x key E Nf2 U2 r) (hr : r.2 = [])
    {E2 : List En} (hm : Mid Nf U d (inT pg (t0, l)) key E2 Nf2 U2 (inT pg (rput t0 l (downP (keysR (t0, l)) key) r))) : Nf2 pg = some (ndT (d + 1) (inT pg (rput t0 l (downP (keysR (t0, l)) key) r))) := by
  obtain ⟨r0, rl⟩ := r
  obtain rfl : rl = [] := hr
  rw [rput_node pg t0 l hx hg.first]
  have hn := h.nodup
  rw [pgs_in] at hn
  rw [hg.upd.keep (fun hk => (List.nodup_cons.1 hn).1 (List.mem_flatMap.2 ⟨x, List.mem_of_getElem? hx, hk⟩)) (by rw [show Nf pg = _ from h.on.1]; rfl)]
  exact h.on.1
theorem rput_kful (hx : (kidsR (t0, l))[downP (keysR (t0, l)) key]? = some x) (h : Pre T Nf (d + 1) (inT pg (t0, l))) (hf : ∀ c ∈ kidsR r, Ful d c) : (∀ c ∈ kidsR (rput t0 l (downP (keysR (t0, l)) key) r), Ful d c) ∧ (rput t0 l (downP (keysR (t0, l)) key) r).2 ≠ [] := by
  refine ⟨rput_ful (down_len hx) h.ful.2 hf, fun h0 => ?_⟩
  have h1 := rput_len (t0 := t0) (r := r) (down_len hx)
  rw [h0, List.length_nil] at h1
  exact h.ful.1 (List.eq_nil_of_length_eq_zero (show l.length = 0 by omega))
/-- a key set beneath, and no more kids than there were -/
theorem set_one (h : Pre T Nf (d + 1) (inT pg (t0, l))) (hx : (kidsR (t0, l))[downP (keysR (t0, l)) key]? = some x) (hg : Got Nf U d x key (setM (ents (toks d x)) key val) Nf2 U2 r) (hf : ∀ c ∈ kidsR r, Ful d c) (hr : r.2 = []) :
    ∃ r2 : Row (Tr (d + 1)), parts (d + 1) r2 = [(pg, [])] ∧ Got Nf U (d + 1) (inT pg (t0, l)) key (setM (ents (toks (d + 1) (inT pg (t0, l)))) key val) Nf2 U2 r2 ∧ ∀ c ∈ kidsR r2, Ful (d + 1) c := by
  have hm := set_mid h hx hg
  refine ⟨_, rfl, hm.fin0 (mid_one (f := id) h hx hg hr hm), ?_⟩
  intro c hc
  rw [kids_one] at hc
  rw [List.mem_singleton.1 hc]
  have hk := rput_kful hx h hf
  exact ful_in hk.2 hk.1
/-- a row in a kid's place: what a write wants -/
theorem two_pre (h : Pre T Nf (d + 1) (inT pg (t0, l))) (hx : (kidsR (t0, l))[downP (keysR (t0, l)) key]? = some x) {E : List En} (hg : Got Nf U d x key E Nf2 U2 r) (hv : Vw T2 Nf2) (hk : ∀ y ∈ parts d r, y.2.length ≤ 140) :
    OkN (ndT (d + 1) (inT pg (rput t0 l (downP (keysR (t0, l)) key) r))) ∧ sizeP (ndT (d + 1) (inT pg (rput t0 l (downP (keysR (t0, l)) key) r))) ≤ 647 := by
  obtain ⟨_, h1, h2, _⟩ := h.vw _ _ h.on.1
  exact ⟨put_ok (down_len hx) h1 (parts_klen hk) (got_kids hg hv), put_size (down_len hx) h2 (parts_klen hk) hg.short⟩
theorem set_two (h : Pre T Nf (d + 1) (inT pg (t0, l))) (hx : (kidsR (t0, l))[downP (keysR (t0, l)) key]? = some x) (hg : Got Nf U d x key (setM (ents (toks d x)) key val) Nf2 U2 r) (hf : ∀ c ∈ kidsR r, Ful d c)
    {l9 : List (Nat × Tx)} {Nf9 : Nat → Option Nd} {U9 : Nat} (hw : Wrote Nf2 U2 pg (ndT (d + 1) (inT pg (rput t0 l (downP (keysR (t0, l)) key) r))) l9 Nf9 U9) :
    ∃ r2 : Row (Tr (d + 1)), parts (d + 1) r2 = l9 ∧ Got Nf U (d + 1) (inT pg (t0, l)) key (setM (ents (toks (d + 1) (inT pg (t0, l)))) key val) Nf9 U9 r2 ∧ ∀ c ∈ kidsR r2, Ful (d + 1) c := by
  obtain ⟨r2, h1, h2, h3, _, _⟩ := (set_mid h hx hg).fin hw
  have hk := rput_kful hx h hf
  exact ⟨r2, h1, h2, h3 hk.1 hk.2⟩
end
end Go.Proofs.Ytdilkgcoecipjaa

namespace Go.Proofs.Ytdilkgcoecipjaa
open Go.RowKit Go.Maps
set_option linter.unusedVariables false

/-- what a change of a tree hands back -/
def AtTo (fp : Nat → Prop) (d : Nat) (t : Tr d) (w : World) (c p dd : Nat) (F : Nat → Prop) (s : DS) (S T : AS) (N : Nat) (Nf : Nat → Option Nd) (U M : Nat) (key val : Tx) (e : Ending) (w' : World) : Prop :=
  ∃ (T2 : AS) (r : Row (Tr d)) (Nf2 : Nat → Option Nd) (U2 : Nat) (was last : Bool) (lv : Nat), ChTo fp (4 * (d + 1)) w c p dd F s S N T2 (parts d r) key val false was last lv e w' ∧ Got Nf U d t key (setM (ents (toks d t)) key val) Nf2 U2 r ∧ (∀ x ∈ kidsR r, Ful d x) ∧ (∀ x ∈ parts d r, x.2.length ≤ 140) ∧ Sto T2 Nf2 U2 M none ∧ T2.root = T.root ∧ U2 ≤ U + (d + 1)
/-- what a change of a tree wants -/
structure AtIn (d : Nat) (t : Tr d) (w : World) (c p dd : Nat) (F : Nat → Prop) (s : DS) (S T : AS) (N : Nat) (Nf : Nat → Option Nd) (U M : Nat) (key val : Tx) (was last : Bool) (lv : Nat) : Prop where
  ch : Blk w c (chC p key val false was last lv) TCh
  ncF : ¬ F c
  pre : Pre T Nf d t
  pg : PgV w p dd F 1600 s S T true N
  hN : N + 4 * (d + 1) ≤ 999990
  sto : Sto T Nf U M none
  hM : M ≤ 1190
  hU : U + (d + 1) ≤ M
  hkey : key.length ≤ 140
  hval : key.length + val.length ≤ 150

theorem wrote_u {Nf Nf2 : Nat → Option Nd} {U U2 at_ : Nat} {nd : Nd} {l : List (Nat × Tx)} (h : Wrote Nf U at_ nd l Nf2 U2) : U2 ≤ U + 1 := by
  rcases h with ⟨_, _, rfl⟩ | ⟨_, _, _, _, _, _, _, rfl, _⟩ <;> omega
set_option maxRecDepth 100000 in
set_option maxHeartbeats 16000000 in
theorem inner_set (d : Nat) (IH : ∀ (t : Tr d) (w : World) (c p dd : Nat) (F : Nat → Prop) (s : DS) (S T : AS) (N : Nat) (Nf : Nat → Option Nd) (U M : Nat) (key val : Tx) (was last : Bool) (lv : Nat), AtIn d t w c p dd F s S T N Nf U M key val was last lv → lv + d + 1 ≤ 64 →
      Calls Try.prog 46 #[.pointer (some ⟨c, 0, none⟩), .int .i64 (atT d t : Int)] w (AtTo (fun k => F k ∨ k = c) d t w c p dd F s S T N Nf U M key val))
    (pg : Nat) (t0 : Tr d) (l : List (Tx × Tr d)) (w : World) (c p dd : Nat) (F : Nat → Prop) (s : DS) (S T : AS) (N : Nat) (Nf : Nat → Option Nd) (U M : Nat) (key val : Tx) (was last : Bool) (lv : Nat) (B0 : Nat) (pk : Option Addr) (nk ck : Nat) (pv : Option Addr) (nv cv : Nat) (pd : Option Addr) (nc cd : Nat)
    (h : AtIn (d + 1) (inT pg (t0, l)) w c p dd F s S T N Nf U M key val was last lv) (hlv0 : lv + d + 1 ≤ 64) (hcB : c < B0) (hFB : ∀ k, F k → k < B0) (hB : B0 ≤ w.heap.size) (nd : Nd) (hndt : ndT (d + 1) (inT pg (t0, l)) = nd) (hnd : NdAt w false pk ck pv cv pd cd nd) (hni : NdIn B0 w.heap.size pk ck pv cv pd cd nd) (hnk : nd.keys.length = nk) (hnv : nd.vals.length = nv) (hnc : nd.kids.length = nc) (hnk2 : nk ≤ 251) (hnc2 : nc ≤ 252) :
    Calls Try.prog 60 #[.pointer (some ⟨c, 0, none⟩), .int .i64 (pg : Int), ndV false pk nk ck pv nv cv pd nc cd] w (AtTo (fun k => F k ∨ k = c ∨ B0 ≤ k) (d + 1) (inT pg (t0, l)) w c p dd F s S T N Nf U M key val) := by
  have hkeys : nd.keys = keysR (t0, l) := by rw [← hndt, ndT_in]
  have hkids : nd.kids = (kidsR (t0, l)).map (atT d) := by rw [← hndt, ndT_in]
  obtain ⟨ix, hix⟩ : ∃ ix, downP (keysR (t0, l)) key = ix := ⟨_, rfl⟩
  have hixn : ix < nc := by
    have := downP_le (keysR (t0, l)) key
    rw [hix, keysR_len] at this
    rw [← hnc, hkids, List.length_map, kidsR_length, keysR_len]
    omega
  obtain ⟨x, hx⟩ : ∃ x, (kidsR (t0, l))[ix]? = some x := ⟨_, List.getElem?_eq_getElem (by rw [← hnc, hkids, List.length_map] at hixn; exact hixn)⟩
  have hkx : nd.kids[ix]? = some (atT d x) := by rw [hkids, List.getElem?_map, hx]; rfl
  have hnkc : nc = nk + 1 := by rw [← hnc, ← hnk, hkids, hkeys, List.length_map, kidsR_length]
  have hsrt : nd.keys.Pairwise (fun a b => ltB a b = true) := by rw [hkeys]; have := h.pre.asc; rw [toks_in] at this; exact asc_keys (toks d) l t0 this
  have HX : Hid ((kidsR (t0, l))[downP (keysR (t0, l)) key]? = some x) := hid (by rw [hix]; exact hx)
  have HIX := hid hix
  have HKX := hid hkx
  have HSRT := hid hsrt
  have HKEYS := hid hkeys
  have HNDT := hid hndt
  have HH := hid h
  have HFB := hid hFB
  have HND := hid hnd
  have HNI := hid hni
  have HNK := hid hnk
  have HNV := hid hnv
  have HNC := hid hnc
  have HCC := hid h.ch
  have HCF := hid h.ncF
  have HPG := hid h.pg
  have hNN := h.hN
  have hn1 : nk < nc := by omega
  have hn2 : nc ≤ nk + 1 := by omega
  clear h hFB hnd hni hnk hnv hnc hndt hkeys hkids hsrt hix hx hkx hnkc
  unfold ndV
  go_enter Try.func60, Try.ntmps60
  go_wp2_with fail
  obtain ⟨t5, ht5⟩ : ∃ b, w.heap.size = b := ⟨_, rfl⟩
  obtain ⟨w1, hw1⟩ : ∃ x, w.alloc (.cells #[.bool false, .slice pk nk ck, .slice pv nv cv, .slice pd nc cd] 59) = x := ⟨_, rfl⟩
  have hal : Below w.heap.size w w1 := by rw [← hw1]; exact (Below.refl _ _).alloc (Nat.le_refl _) _
  have HT1 : Hid (Blk w1 t5 [.bool false, .slice pk nk ck, .slice pv nv cv, .slice pd nc cd] TN) := hid (by rw [← hw1, ← ht5]; exact heap_alloc_new _ _)
  have HC1 := hid (HCC.out.chg (Chg.new hal NoFp) (fun h => h))
  have HD1 := hid (HND.out.new hal)
  have HP1 := hid (HPG.out.new' hal)
  have HG1 : Hid (Chg (fun k => F k ∨ k = c ∨ B0 ≤ k) w w1) := hid (Chg.new hal _)
  have hs1 : w1.heap.size = t5 + 1 := by rw [← hw1, ← ht5]; simp
  rw [hw1, ht5]
  rw [ht5] at hB
  have HS5 := hid ht5
  clear hw1 hal ht5
  refine wp_region_plan (fun w' => Blk w' t5 [.bool false, .slice pk nk ck, .slice pv nv cv, .slice pd nc cd] TN ∧ Blk w' c (chC p key val false was last lv) TCh) (fun j => !([5].contains j)) (fun _ => false)
    (.of [0, 1, 2, 3, 4, 5, 6]) (by kernel_rfl) (by kernel_rfl) rfl (by kernel_rfl) (by kernel_rfl) ⟨HT1.out, HC1.out⟩ ?_
  iterate 5 (apply wpPlan_val; (case ho => rfl); (case hst => rfl); (case hw => rfl); (case hv => intro w' hS; obtain ⟨x8, x9, x10, x11, _, _, _, _⟩ := four_cells hS.1; obtain ⟨y0, y1, y2, y3, y4, y5, y6, _, _, _⟩ := ch_cells hS.2; go_simp; first | done | rfl); intro K hK; go_simp; refine hK _ ?_; clear hK K)
  refine wpPlan_list rfl rfl rfl (fun K hK => ?_)
  refine wpList_step (fun K2 hK2 => ?_)
  go_simp
  refine (down_any w1.drew nd false pk nk ck pv nv cv pd nc cd key (show Rd w1.drew 1 (.slice pk nk ck) nk (tv nd.keys) from by rw [← HNK.out]; exact HD1.out.keys) HNK.out HSRT.out (by omega)).mono ?_
  rintro e2 w2 ⟨rfl, hb2⟩
  have hb2 : Below w1.heap.size w1 w2 := (below_drewN (Below.refl _ _) 1).trans hb2
  rw [HKEYS.out, HIX.out]
  have HT2 := hid (HT1.out.chg (Chg.new hb2 NoFp) (fun h => h))
  have HC2 := hid (HC1.out.chg (Chg.new hb2 NoFp) (fun h => h))
  have HD2 := hid (HD1.out.new hb2)
  have HP2 := hid (HP1.out.new' hb2)
  have HG2 := hid (HG1.out.trans (Chg.new hb2 NoFp) (fun _ _ h => h.elim))
  have hs2 : t5 + 1 ≤ w2.heap.size := by have := hb2.size; omega
  clear hb2 HT1 HC1 HD1 HP1 HG1
  go_simp
  refine hK2 _ _ ?_
  clear hK2 K2
  simp only [wpList]
  refine hK _ _ (fun _ => ⟨HT2.out, HC2.out⟩) ?_
  clear hK K
  (apply wpPlan_val; (case ho => rfl); (case hst => rfl); (case hw => rfl); (case hv => intro w' hS; go_simp; first | done | rfl); intro K hK; go_simp; refine hK _ ?_; clear hK K)
  refine wpPlan_nil ?_
  simp only [Qn]
  obtain ⟨y0, y1, y2, y3, y4, y5, y6, z4, z5, z6⟩ := ch_cells HC2.out
  obtain ⟨x0, x1, x2, x3, _, _, _, _⟩ := four_cells HT2.out
  have hct5 : c ≠ t5 := by omega
  have hct6 : t5 ≠ c := by omega
  obtain ⟨gd, od, rfl, hck⟩ := HD2.out.kids.addr (by rw [HNC.out]; omega)
  have hkc : w2.cell? ⟨gd, od + ix, none⟩ = some (.int .i64 (atT d x : Int)) := hck ix _ (kv_get HKX.out)
  have hkl := World.block_lt_of_cell? _ _ hkc
  have hgd : gd ≠ c := by
    rcases HNI.out.kids with h0 | h0
    · rw [HNC.out] at h0; omega
    · have := h0 gd rfl; omega
  have hixc : (ix : Int) < (nc : Int) := by omega
  clear hck
  cases last
  case' false =>
    go_wp2_with fail
    obtain ⟨w3, hw3⟩ : ∃ x, w2.setCell ⟨c, 5, none⟩ (.bool false) = x := ⟨_, rfl⟩
    have hc3 : Chg (fun k => k = c) w2 w3 := by rw [← hw3]; exact Chg.setCell (fp := fun k => k = c) _ rfl _
    have hcc3 : Blk w3 c (chC p key val false was false lv) TCh := by rw [← hw3]; exact HC2.out.set 5 (.bool false)
    rw [hw3]
  case' true =>
    rcases Decidable.em (ix = nc - 1) with hin | hin
    case' inl =>
      have hin2 : ((ix : Int) == (nc : Int) - 1) = true := by rw [beq_iff_eq]; omega
      have HIN := hid hin
      clear hin
      go_wp2_with fail
      obtain ⟨w3, hw3⟩ : ∃ x, w2.setCell ⟨c, 5, none⟩ (.bool true) = x := ⟨_, rfl⟩
      have hc3 : Chg (fun k => k = c) w2 w3 := by rw [← hw3]; exact Chg.setCell (fp := fun k => k = c) _ rfl _
      have hcc3 : Blk w3 c (chC p key val false was true lv) TCh := by rw [← hw3]; exact HC2.out.set 5 (.bool true)
      rw [hw3]
    case' inr =>
      have hin2 : ((ix : Int) == (nc : Int) - 1) = false := by rw [beq_eq_false_iff_ne]; omega
      go_wp2_with fail
      obtain ⟨w3, hw3⟩ : ∃ x, w2.setCell ⟨c, 5, none⟩ (.bool false) = x := ⟨_, rfl⟩
      have hc3 : Chg (fun k => k = c) w2 w3 := by rw [← hw3]; exact Chg.setCell (fp := fun k => k = c) _ rfl _
      have hcc3 : Blk w3 c (chC p key val false was false lv) TCh := by rw [← hw3]; exact HC2.out.set 5 (.bool false)
      rw [hw3]
  all_goals
    obtain ⟨lb, hlb⟩ : ∃ b, chC p key val false was b lv = chC p key val false was b lv ∧ Blk w3 c (chC p key val false was b lv) TCh := ⟨_, rfl, hcc3⟩
    have HC3 := hid hlb.2
    have HT3 := hid (HT2.out.chg hc3 (by omega))
    have HP3 := hid (HP2.out.chg hc3 (fun k hk h => HCF.out (h ▸ hk)))
    have HG3 := hid (HG2.out.trans hc3 (fun k hk h => .inr (.inl h)))
    have HD3 := hid (HD2.out.stay HNI.out hc3 (fun g h1 h2 h => by omega))
    have hs3 : t5 + 1 ≤ w3.heap.size := by have := hc3.size; omega
    clear hw3 hc3 hcc3 hlb HC2 HT2 HP2 HG2 HD2
    refine (IH x w3 c p dd F s S T N Nf U M key val was lb lv ⟨HC3.out, HCF.out, HH.out.pre.kid (List.mem_of_getElem? HX.out), HP3.out, by omega, HH.out.sto, HH.out.hM, by have := HH.out.hU; omega, HH.out.hkey, HH.out.hval⟩ hlv0).mono ?_
    rintro e4 w4 ⟨T2, r, Nf2, U2, was2, last2, lv2, ⟨q, F4, N4, rfl, hq, hv, hN4, hc4, hF4, hqF, hqw, hcc4, hcF4⟩, hgot, hful, hkl2, hst2, hr2, hu2⟩
    have hout : ∀ g, B0 ≤ g → g < w3.heap.size → ¬ (F g ∨ g = c) := fun g h1 h2 h => by rcases h with h | h; have := HFB.out g h; omega; omega
    have HT4 := hid (HT3.out.chg hc4 (hout t5 hB (by omega)))
    have HD4 := hid (HD3.out.stay HNI.out hc4 (fun g h1 h2 => hout g h1 (by have := HG3.out.size; omega)))
    have HC4 := hid hcc4
    have HCF4 := hid hcF4
    have HP4 := hid hv
    have HQ4 := hid hq
    have HG4 := hid (HG3.out.trans hc4 (fun _ _ h => h.elim (fun h => .inl h) (fun h => .inr (.inl h))))
    have HF4 : Hid (∀ k, F4 k → F k ∨ w.heap.size ≤ k) := hid (fun k h => (hF4 k h).imp id (fun h => by have := HG3.out.size; omega))
    have hF4t : ∀ g, B0 ≤ g → g < w3.heap.size → ¬ F4 g := fun g h1 h2 h => by rcases hF4 g h with h3 | h3; have := HFB.out g h3; omega; omega
    have HGOT := hid hgot
    have HFUL := hid hful
    have HKL := hid hkl2
    have HST := hid (And.intro hst2 hr2)
    have HQF := hid hqF
    have hz4 := hc4.size
    have hqw4 : w.heap.size ≤ q := by have := HG3.out.size; omega
    clear hq hv hc4 hF4 hqF hqw hcc4 hcF4 hgot hful hkl2 hst2 hr2 HC3 HT3 HP3 HG3 HD3 hkc hkl
    obtain ⟨m, hm⟩ : ∃ m, (parts d r).length = m := ⟨_, rfl⟩
    rw [hm]
    have HM := hid hm
    have hm12 : m = 1 ∨ m = 2 := by rw [← hm, parts_len]; have := HGOT.out.short; omega
    obtain ⟨y0, y1, y2, y3, y4, y5, y6, z4, z5, z6⟩ := ch_cells HC4.out
    obtain ⟨x0, x1, x2, x3, f0, f1, f2, f3⟩ := four_cells HT4.out
    clear hm
    rcases hm12 with rfl | rfl
    · go_wp2_with fail
      obtain ⟨q5, hq5⟩ : ∃ b, w4.heap.size = b := ⟨_, rfl⟩
      obtain ⟨w5, hw5⟩ : ∃ x, w4.alloc (.cells #[.int .i64 (pg : Int), .string ⟨#[]⟩] 116) = x := ⟨_, rfl⟩
      have hal5 : Below w4.heap.size w4 w5 := by rw [← hw5]; exact (Below.refl _ _).alloc (Nat.le_refl _) _
      have HQ5 : Hid (Blk w5 q5 (ptV [(pg, [])]) TPt) := hid (by rw [← hw5, ← hq5]; exact heap_alloc_new _ _)
      rw [hw5, hq5]
      clear y0 y1 y2 y3 y4 y5 y6 z4 z5 z6 x0 x1 x2 x3 f0 f1 f2 f3 hw5
      have hF4l := HP4.out.lt
      obtain ⟨r2, hr2, hg2, hf2⟩ := set_one HH.out.pre HX.out HGOT.out HFUL.out (by have := HM.out; rw [parts_len] at this; exact List.eq_nil_of_length_eq_zero (by omega))
      go_ret2
      refine ⟨T2, r2, Nf2, U2, was2, last2, lv2, ⟨q5, F4, N4, by rw [hr2]; rfl, by rw [hr2]; exact HQ5.out, HP4.out.new' hal5, by omega, HG4.out.trans (Chg.new hal5 NoFp) (fun _ _ h => h.elim), HF4.out, fun h => by have := hF4l _ h; omega, by have := HG4.out.size; omega, HC4.out.chg (Chg.new hal5 NoFp) (fun h => h), HCF4.out⟩, hg2, hf2, by rw [hr2]; intro y hy; rw [List.mem_singleton.1 hy]; simp, HST.out.1, HST.out.2, by omega⟩
    · go_wp2_with fail
      have HPL := hid (show putN nd ix ix (parts d r) = ndT (d + 1) (inT pg (rput t0 l (downP (keysR (t0, l)) key) r)) from by rw [← HNDT.out, ← HIX.out]; exact putN_tree (down_len HX.out))
      clear y0 y1 y2 y3 y4 y5 y6 z4 z5 z6 x0 x1 x2 x3
      have hl2 := HM.out
      refine (show Calls Try.prog 47 #[ndV false pk nk ck pv nv cv (some ⟨gd, od, none⟩) nc cd, .int .i64 (ix : Int), .int .i64 (ix : Int), .slice (some ⟨q, 0, none⟩) 2 2] w4 _ from by rw [← hl2]; exact nput_any w4 nd false pk nk ck pv nv cv (some ⟨gd, od, none⟩) nc cd ix ix q (parts d r) HD4.out HNK.out HNV.out HNC.out HQ4.out (Nat.le_refl _) (by omega) (by omega) (by omega) (by omega) (by omega)).mono ?_
      rintro e5 w5 ⟨pa, ca, pe, ce, rfl, hnd5, hb5⟩
      rw [HPL.out] at hnd5 ⊢
      obtain ⟨nd5, hnd5e⟩ : ∃ n, ndT (d + 1) (inT pg (rput t0 l (downP (keysR (t0, l)) key) r)) = n := ⟨_, rfl⟩
      rw [hnd5e] at hnd5 ⊢
      have hpre := two_pre HH.out.pre HX.out HGOT.out HST.out.1.vw HKL.out
      rw [hnd5e] at hpre
      have HPRE := hid hpre
      have HE5 := hid hnd5e
      have HD5 := hid hnd5
      have HT5 := hid (HT4.out.chg (Chg.new hb5 NoFp) (fun h => h))
      have HC5 := hid (HC4.out.chg (Chg.new hb5 NoFp) (fun h => h))
      have HP5 := hid (HP4.out.new' hb5)
      have HG5 := hid (HG4.out.trans (Chg.new hb5 NoFp) (fun _ _ h => h.elim))
      have hs5 : w4.heap.size ≤ w5.heap.size := hb5.size
      clear hnd5 hnd5e hpre hb5 HD4 HT4 HC4 HP4 HG4 hl2
      obtain ⟨y0, y1, y2, y3, y4, y5, y6, z4, z5, z6⟩ := ch_cells HC5.out
      obtain ⟨x0, x1, x2, x3, f0, f1, f2, f3⟩ := four_cells HT5.out
      unfold ndV
      go_wp2_with fail
      have HST5 := hid HST.out.1
      have hvn5 : nd5.vals = [] := by rw [← HE5.out, ndT_in]
      have hlf5 : nd5.leaf = false := by rw [← HE5.out, ndT_in]
      obtain ⟨s6, hs6⟩ : ∃ y, (((w5.setCell ⟨t5, 0, none⟩ (.bool false)).setCell ⟨t5, 1, none⟩ (.slice pa nd5.keys.length ca)).setCell ⟨t5, 2, none⟩ (.slice none 0 0)).setCell ⟨t5, 3, none⟩ (.slice pe nd5.kids.length ce) = y := ⟨_, rfl⟩
      have hch6 := nchg4 (w := w5) (g := t5) (.bool false) (.slice pa nd5.keys.length ca) (.slice none 0 0) (.slice pe nd5.kids.length ce)
      rw [hs6] at hch6 ⊢
      have HD6 := hid (HD5.out.chg2 hch6 HT5.out)
      have HC6 := hid (HC5.out.chg hch6 (by omega))
      have HP6 := hid (HP5.out.chg hch6 (fun k hk h => hF4t t5 hB (by omega) (h ▸ hk)))
      have HG6 := hid (HG5.out.trans hch6 (fun k hk h => .inr (.inr (by omega))))
      have hs6z := hch6.size
      clear hs6 hch6 y0 y1 y2 y3 y4 y5 y6 z4 z5 z6 x0 x1 x2 x3 f0 f1 f2 f3 HT5 HC5 HP5 HG5 HD5
      have hpgs : (Nf2 pg).isSome = true := (set_mid HH.out.pre HX.out HGOT.out).node
      have hgc := HGOT.out.cnt
      refine (nwrite_any s6 c p dd F4 s S T2 N4 Nf2 U2 M key val false was2 last2 lv2 pg nd5 false pa nd5.keys.length ca none 0 0 pe nd5.kids.length ce HC6.out HCF4.out HD6.out rfl (by rw [hvn5]; rfl) rfl HP6.out (by omega) HST5.out HH.out.hM (by have := HH.out.hU; omega) hpgs HPRE.out.1 (fun h => by cases h) (fun _ => HPRE.out.2) (fun _ h => by cases h)).mono ?_
      rintro e7 w7 ⟨T7, l7, Nf7, U7, ⟨q7, F7, N7, rfl, hq7, hv7, hN7, hc7, hF7, hqF7, hqw7⟩, hwr7, hst7, hr7⟩
      have hlen7 := wrote_len HPRE.out.1 hwr7
      rw [← HE5.out] at hwr7
      obtain ⟨r2, hr2, hg2, hf2⟩ := set_two HH.out.pre HX.out HGOT.out HFUL.out hwr7
      have HFIN : Hid (AtTo (fun k => F k ∨ k = c ∨ B0 ≤ k) (d + 1) (inT pg (t0, l)) w c p dd F s S T N Nf U M key val (.returned (.tuple #[.slice (some ⟨q7, 0, none⟩) l7.length l7.length, .int .i64 0])) w7) := hid
        ⟨T7, r2, Nf7, U7, was2, last2, lv2, ⟨q7, F7, N7, by rw [hr2], by rw [hr2]; exact hq7, hv7, by omega, HG6.out.trans hc7 (fun k hk h => by rcases HF4.out k h with h2 | h2; exact .inl h2; exact absurd hk (by omega)), fun k h => by
          rcases hF7 k h with h2 | h2
          · exact HF4.out k h2
          · exact .inr (by have := HG6.out.size; omega), hqF7, by have := HG6.out.size; omega, HC6.out.chg hc7 HCF4.out, fun h => by
          rcases hF7 c h with h2 | h2
          · exact HCF4.out h2
          · have := HG6.out.size; omega⟩, hg2, hf2, by rw [hr2]; exact hlen7, hst7, hr7.trans HST.out.2, by have := wrote_u hwr7; omega⟩
      clear hq7 hv7 hN7 hc7 hF7 hqF7 hqw7 hwr7 hst7 hr7 hlen7 hr2 hg2 hf2
      go_wp2_with fail
      go_ret2
      exact HFIN.out
end Go.Proofs.Ytdilkgcoecipjaa
