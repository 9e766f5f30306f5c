/- btree: walker.page: through a tree. -/
import Derived.Test.YtdilkgcoecipjaaBtK
import Derived.Test.YtdilkgcoecipjaaM7
import Derived.Test.YtdilkgcoecipjaaM3
namespace Go.Proofs.Ytdilkgcoecipjaa
open Go.RowKit Go.Maps
set_option linter.unusedVariables false

/-- pages as nodes -/
def Vw (T : AS) (Nf : Nat → Option Nd) : Prop := ∀ k nd, Nf k = some nd → T.B (k : Int) = some (pad504 (enc nd)) ∧ OkN nd ∧ sizeP nd ≤ 504 ∧ k < 65536
abbrev vq (vs : List Nat) : List (Int × List UInt8) := vs.map fun k : Nat => ((k : Int), ([] : List UInt8))
theorem vq_any (vs : List Nat) (k : Nat) : (vq vs).any (fun p => p.1 == (k : Int)) = decide (k ∈ vs) := by
  induction vs with
  | nil => rfl
  | cons a vs ih =>
    rw [vq, List.map_cons, List.any_cons]
    rw [vq] at ih
    rw [ih]
    by_cases h : a = k
    · subst h; simp
    · have h2 : ¬ k = a := fun e => h e.symm
      have h3 : ((a : Int) == (k : Int)) = false := by rw [beq_eq_false_iff_ne]; omega
      simp only [h3, Bool.false_or, List.mem_cons, h2, false_or]
theorem own_map_ne {P : Program} {k : TypeId} {R : Value → Option (DataW Unit × List MemPlace)} {w : World} {B0 size n m b : Nat} {e : TypeId} {v : Value} {xs : List Value} {D : DataW Unit} (h : w.ownsRow B0 e size v n xs) (hm : w.ownsMap P k R b m D) : v.ownBlock ≠ some b := by
  intro hg
  obtain ⟨es, ck, h1, _⟩ := hm
  rcases h.2 with ⟨rfl, _⟩ | ⟨g1, cap, cur, rfl, _, h3, _⟩
  · cases hg
  · cases hg
    rw [h3] at h1
    cases h1
/-- a walker, over the blocks G -/
structure WkP (W0 : Nat) (w : World) (G : Nat → Prop) (g p : Nat) (fr to : Tx) (most : Nat) (vs : List Nat) (es : List En) (mp : Nat) (pp : Option Addr) (cp : Nat) (pk : Option Addr) (ck : Nat) (pv : Option Addr) (cv : Nat) (D : DataW Unit) : Prop where
  blk : Blk w g (wkC p fr to most mp pp vs.length cp pk es.length ck pv es.length cv) TW
  map : w.ownsMap Try.prog 3 (plainElem (H := Unit) Try.prog 3) mp vs.length D
  seen : Seen D (vq vs)
  pages : w.ownsRow W0 TI 1 (.slice pp vs.length cp) vs.length (kv vs)
  keys : w.ownsRow W0 TSt 1 (.slice pk es.length ck) es.length (tv (es.map (·.1)))
  vals : w.ownsRow W0 TSt 1 (.slice pv es.length cv) es.length (tv (es.map (·.2)))
  ne : NeB (.slice pk es.length ck) (.slice pv es.length cv)
  inG : G g ∧ G mp ∧ (∀ k, Value.ownBlock (.slice pp vs.length cp) = some k → G k) ∧ (∀ k, Value.ownBlock (.slice pk es.length ck) = some k → G k) ∧ (∀ k, Value.ownBlock (.slice pv es.length cv) = some k → G k)
  bd : ∀ k, G k → W0 ≤ k ∧ k < w.heap.size
def Wk (W0 : Nat) (w : World) (G : Nat → Prop) (g p : Nat) (fr to : Tx) (most : Nat) (vs : List Nat) (es : List En) : Prop := ∃ mp pp cp pk ck pv cv D, WkP W0 w G g p fr to most vs es mp pp cp pk ck pv cv D
theorem map_chg {P : Program} {k : TypeId} {R : Value → Option (DataW Unit × List MemPlace)} {w w' : World} {fp : Nat → Prop} {b n : Nat} {D : DataW Unit} (h : w.ownsMap P k R b n D) (hc : Chg fp w w') (hn : ¬ fp b) : w'.ownsMap P k R b n D := by
  obtain ⟨es, ck, h1, h2⟩ := h
  exact ⟨es, ck, hc.heap h1 hn, h2⟩
theorem WkP.chg {W0 : Nat} {w w' : World} {G fp : Nat → Prop} {g p : Nat} {fr to : Tx} {most : Nat} {vs : List Nat} {es : List En} {mp : Nat} {pp : Option Addr} {cp : Nat} {pk : Option Addr} {ck : Nat} {pv : Option Addr} {cv : Nat} {D : DataW Unit}
    (h : WkP W0 w G g p fr to most vs es mp pp cp pk ck pv cv D) (hc : Chg fp w w') (hn : ∀ k, G k → ¬ fp k) : WkP W0 w' G g p fr to most vs es mp pp cp pk ck pv cv D :=
  ⟨h.blk.chg hc (hn _ h.inG.1), map_chg h.map hc (hn _ h.inG.2.1), h.seen, own_chg h.pages hc (fun k hk => hn k (h.inG.2.2.1 k hk)), own_chg h.keys hc (fun k hk => hn k (h.inG.2.2.2.1 k hk)), own_chg h.vals hc (fun k hk => hn k (h.inG.2.2.2.2 k hk)), h.ne, h.inG, fun k hk => ⟨(h.bd k hk).1, Nat.lt_of_lt_of_le (h.bd k hk).2 hc.size⟩⟩
theorem Wk.chg {W0 : Nat} {w w' : World} {G fp : Nat → Prop} {g p : Nat} {fr to : Tx} {most : Nat} {vs : List Nat} {es : List En} (h : Wk W0 w G g p fr to most vs es) (hc : Chg fp w w') (hn : ∀ k, G k → ¬ fp k) : Wk W0 w' G g p fr to most vs es := by
  obtain ⟨mp, pp, cp, pk, ck, pv, cv, D, h⟩ := h
  exact ⟨mp, pp, cp, pk, ck, pv, cv, D, h.chg hc hn⟩
/-- what page hands back -/
def PageP (d : Nat) (t : Tr d) (es es' : List En) (us : List Nat) (fr to : Tx) (most : Nat) (more : Bool) : Prop :=
  (es' = (es ++ rngM (ents (toks d t)) fr to).take most ∧ (more = false → most ≤ es'.length ∨ (to ≠ [] ∧ ∃ e ∈ ents (toks d t), ltB e.1 to = false))) ∧ (∀ k ∈ us, k ∈ pgs d t) ∧ us.Nodup ∧ (fr = [] → to = [] → more = true → us = pgs d t)
def PageTo (W0 : Nat) (w : World) (G : Nat → Prop) (g p : Nat) (fr to : Tx) (most : Nat) (vs : List Nat) (es : List En) (d : Nat) (t : Tr d) (e : Ending) (w' : World) : Prop :=
  ∃ (more : Bool) (us : List Nat) (es' : List En) (G' : Nat → Prop), e = .returned (.tuple #[.bool more, .int .i64 0]) ∧ PageP d t es es' us fr to most more ∧ Wk W0 w' G' g p fr to most (vs ++ us) es' ∧ Chg G w w' ∧ ∀ k, G' k → G k ∨ w.heap.size ≤ k
/-- what page asks -/
structure PagePre (W0 : Nat) (w : World) (G : Nat → Prop) (g p : Nat) (fr to : Tx) (most : Nat) (vs : List Nat) (es : List En) (d : Nat) (t : Tr d) (Nf : Nat → Option Nd) : Prop where
  wk : Wk W0 w G g p fr to most vs es
  on : On Nf d t
  asc : Asc (toks d t)
  fit : Fit d t
  fresh : ∀ k ∈ pgs d t, k ∉ vs
  nodup : (pgs d t).Nodup
  most0 : es.length ≤ most
  most1 : most ≤ 4611686018427387904
  few : es.length + (ents (toks d t)).length ≤ 1000000
  fewP : vs.length + (pgs d t).length ≤ 1000000
theorem Wk.drewN {W0 : Nat} {w : World} {G : Nat → Prop} {g p : Nat} {fr to : Tx} {most : Nat} {vs : List Nat} {es : List En} (h : Wk W0 w G g p fr to most vs es) (n : Nat) : Wk W0 (w.drewN n) G g p fr to most vs es := by
  obtain ⟨mp, pp, cp, pk, ck, pv, cv, D, h⟩ := h
  exact ⟨mp, pp, cp, pk, ck, pv, cv, D, h.blk, h.map, h.seen, h.pages, h.keys, h.vals, h.ne, h.inG, h.bd⟩
/-- among a node's kids -/
structure PgJ (W0 : Nat) (w : World) (G : Nat → Prop) (g p : Nat) (fr to : Tx) (most : Nat) (vs : List Nat) (es : List En) (d : Nat) (t : Tr (d + 1)) (at_ : Nat) (wr : World) (i t6 : Nat) (qk : Option Addr) (dk : Nat) (qv : Option Addr) (dv : Nat) (qd : Option Addr) (dd2 : Nat) (us : List Nat) (es1 A : List En) (G1 : Nat → Prop) : Prop where
  le : i ≤ (keysR t.2).length + 1
  tb : Blk wr t6 [.bool false, .slice qk (keysR t.2).length dk, .slice qv 0 dv, .slice qd ((keysR t.2).length + 1) dd2] TN
  rk : Rd wr 1 (.slice qk (keysR t.2).length dk) (keysR t.2).length (tv (keysR t.2))
  rd : Rd wr 1 (.slice qd ((keysR t.2).length + 1) dd2) ((keysR t.2).length + 1) (kv ((kidsR t.2).map (atT d)))
  bnd : ∀ b, (Value.ownBlock (.slice qk (keysR t.2).length dk) = some b ∨ Value.ownBlock (.slice qd ((keysR t.2).length + 1) dd2) = some b) → ¬ G1 b ∧ b < wr.heap.size
  ng : ¬ G1 t6
  wk : Wk W0 wr G1 g p fr to most (vs ++ (at_ :: us)) es1
  chg : Chg G w wr
  g1 : ∀ k, G1 k → G k ∨ w.heap.size ≤ k
  eq : es1 = (es ++ A).take most
  rng : rngM (ents (toks (d + 1) t)) fr to = A ++ rngM (ents (flK (toks d) ((kidsR t.2).drop i) ((keysR t.2).drop i))) fr to
  cnt : A.length + (ents (flK (toks d) ((kidsR t.2).drop i) ((keysR t.2).drop i))).length ≤ (ents (toks (d + 1) t)).length
  usm : ∀ k ∈ us, k ∈ ((kidsR t.2).take i).flatMap (pgs d)
  usn : us.Nodup
  usall : fr = [] → to = [] → us = ((kidsR t.2).take i).flatMap (pgs d)
theorem PgJ.drewN {W0 : Nat} {w : World} {G : Nat → Prop} {g p : Nat} {fr to : Tx} {most : Nat} {vs : List Nat} {es : List En} {d : Nat} {t : Tr (d + 1)} {at_ : Nat} {wr : World} {i t6 : Nat} {qk : Option Addr} {dk : Nat} {qv : Option Addr} {dv : Nat} {qd : Option Addr} {dd2 : Nat} {us : List Nat} {es1 A : List En} {G1 : Nat → Prop}
    (h : PgJ W0 w G g p fr to most vs es d t at_ wr i t6 qk dk qv dv qd dd2 us es1 A G1) (n : Nat) : PgJ W0 w G g p fr to most vs es d t at_ (wr.drewN n) i t6 qk dk qv dv qd dd2 us es1 A G1 :=
  ⟨h.le, h.tb, h.rk, h.rd, h.bnd, h.ng, h.wk.drewN n, h.chg.drewR n, h.g1, h.eq, h.rng, h.cnt, h.usm, h.usn, h.usall⟩
theorem flat_take {α : Type} {l : List α} {i : Nat} {c : α} (f : α → List Nat) (h : l[i]? = some c) : (l.take (i + 1)).flatMap f = (l.take i).flatMap f ++ f c := by
  rw [List.take_add_one, h, List.flatMap_append]; simp
theorem flat_split {α : Type} {l : List α} {i : Nat} {c : α} (f : α → List Nat) (h : l[i]? = some c) : l.flatMap f = (l.take i).flatMap f ++ (f c ++ (l.drop (i + 1)).flatMap f) := by
  obtain ⟨hi, rfl⟩ := List.getElem?_eq_some_iff.1 h
  conv => lhs; rw [← List.take_append_drop i l, List.drop_eq_getElem_cons hi, List.flatMap_append, List.flatMap_cons]
theorem act_getD (a : Act) (n : Nat) (hs : a.tmps.size = n) (hd : a.defers = []) : a = ⟨((List.range n).map (fun k => a.tmps.getD k undef)).toArray, []⟩ := by
  obtain ⟨tm, df⟩ := a
  simp only at hs hd
  subst hd
  congr 1
  apply Array.ext
  · simp [hs]
  · intro i h1 h2
    simp [h1]
/-- at the label -/
def pageJ (W0 : Nat) (w : World) (G : Nat → Prop) (g p : Nat) (fr to : Tx) (most : Nat) (vs : List Nat) (es : List En) (d : Nat) (t : Tr (d + 1)) (at_ : Nat) (m : Nat) (a : Act) (wr : World) : Prop :=
  ∃ (i t6 : Nat) (qk : Option Addr) (dk : Nat) (qv : Option Addr) (dv : Nat) (qd : Option Addr) (dd2 : Nat) (us : List Nat) (es1 A : List En) (G1 : Nat → Prop) (u : Nat → Value), m = (keysR t.2).length + 1 - i ∧ Hid (PgJ W0 w G g p fr to most vs es d t at_ wr i t6 qk dk qv dv qd dd2 us es1 A G1) ∧
    u 0 = .pointer (some ⟨g, 0, none⟩) ∧ u 1 = .int .i64 (at_ : Int) ∧ u 6 = .pointer (some ⟨t6, 0, none⟩) ∧ u 8 = .int .i64 (i : Int) ∧ a = ⟨#[u 0, u 1, u 2, u 3, u 4, u 5, u 6, u 7, u 8, u 9, u 10, u 11, u 12, u 13, u 14, u 15, u 16, u 17, u 18, u 19, u 20, u 21, u 22, u 23, u 24, u 25, u 26, u 27, u 28, u 29, u 30, u 31, u 32, u 33, u 34, u 35, u 36, u 37, u 38, u 39, u 40, u 41, u 42, u 43, u 44, u 45, u 46, u 47, u 48, u 49, u 50, u 51, u 52, u 53, u 54, u 55, u 56, u 57, u 58, u 59, u 60, u 61, u 62, u 63, u 64, u 65, u 66, u 67, u 68, u 69, u 70, u 71, u 72, u 73, u 74, u 75, u 76, u 77, u 78, u 79, u 80, u 81, u 82, u 83, u 84, u 85, u 86, u 87, u 88, u 89, u 90, u 91, u 92, u 93, u 94, u 95, u 96, u 97, u 98, u 99, u 100, u 101, u 102, u 103, u 104, u 105], []⟩
theorem pageJ_mk {W0 : Nat} {w : World} {G : Nat → Prop} {g p : Nat} {fr to : Tx} {most : Nat} {vs : List Nat} {es : List En} {d : Nat} {t : Tr (d + 1)} {at_ : Nat} {a : Act} {wr : World} {i t6 : Nat} {qk : Option Addr} {dk : Nat} {qv : Option Addr} {dv : Nat} {qd : Option Addr} {dd2 : Nat} {us : List Nat} {es1 A : List En} {G1 : Nat → Prop}
    (hs : a.tmps.size = 106) (hd : a.defers = []) (h0 : a.tmps.getD 0 undef = .pointer (some ⟨g, 0, none⟩)) (h1 : a.tmps.getD 1 undef = .int .i64 (at_ : Int)) (h6 : a.tmps.getD 6 undef = .pointer (some ⟨t6, 0, none⟩)) (h8 : a.tmps.getD 8 undef = .int .i64 (i : Int))
    (HJ : Hid (PgJ W0 w G g p fr to most vs es d t at_ wr i t6 qk dk qv dv qd dd2 us es1 A G1)) : pageJ W0 w G g p fr to most vs es d t at_ ((keysR t.2).length + 1 - i) a wr :=
  ⟨i, t6, qk, dk, qv, dv, qd, dd2, us, es1, A, G1, fun k => a.tmps.getD k undef, rfl, HJ, h0, h1, h6, h8, act_getD a 106 hs hd⟩
theorem pgJ_mem {d : Nat} {t : Tr (d + 1)} {at_ i : Nat} {us : List Nat} (hat : atT (d + 1) t = at_) (h : ∀ k ∈ us, k ∈ ((kidsR t.2).take i).flatMap (pgs d)) : ∀ k ∈ at_ :: us, k ∈ pgs (d + 1) t := by
  intro k hk
  rcases List.mem_cons.1 hk with rfl | hk
  · rw [← hat]; exact at_mem _ _
  · obtain ⟨c, hc, hk⟩ := List.mem_flatMap.1 (h k hk)
    exact List.mem_cons_of_mem _ (List.mem_flatMap.2 ⟨c, List.mem_of_mem_take hc, hk⟩)
theorem pgJ_nodup {d : Nat} {t : Tr (d + 1)} {at_ i : Nat} {us : List Nat} (hat : atT (d + 1) t = at_) (hn : (pgs (d + 1) t).Nodup) (h : ∀ k ∈ us, k ∈ ((kidsR t.2).take i).flatMap (pgs d)) (hu : us.Nodup) : (at_ :: us).Nodup := by
  have hn : (t.1 :: (kidsR t.2).flatMap (pgs d)).Nodup := hn
  refine List.nodup_cons.2 ⟨fun hm => ?_, hu⟩
  have hat : t.1 = at_ := hat
  rw [← hat] at hm
  obtain ⟨c, hc, hk⟩ := List.mem_flatMap.1 (h _ hm)
  exact (List.nodup_cons.1 hn).1 (List.mem_flatMap.2 ⟨c, List.mem_of_mem_take hc, hk⟩)
theorem length_le_of_sub : ∀ {us l : List Nat}, us.Nodup → (∀ k ∈ us, k ∈ l) → us.length ≤ l.length
  | [], _, _, _ => Nat.zero_le _
  | a :: us, l, hn, h => by
    have hn2 := List.nodup_cons.1 hn
    have h1 := length_le_of_sub (us := us) (l := l.erase a) hn2.2 (fun k hk => (List.mem_erase_of_ne (fun e => by subst e; exact hn2.1 hk)).2 (h k (List.mem_cons_of_mem _ hk)))
    have h2 := List.length_erase_of_mem (h a (List.mem_cons_self ..))
    have h3 := List.length_pos_of_mem (h a (List.mem_cons_self ..))
    rw [List.length_cons]; omega
/-- what the next kid's page asks -/
theorem PgJ.pre {W0 : Nat} {w : World} {G : Nat → Prop} {g p : Nat} {fr to : Tx} {most : Nat} {vs : List Nat} {es : List En} {d : Nat} {t : Tr (d + 1)} {at_ : Nat} {wr : World} {i t6 : Nat} {qk : Option Addr} {dk : Nat} {qv : Option Addr} {dv : Nat} {qd : Option Addr} {dd2 : Nat} {us : List Nat} {es1 A : List En} {G1 : Nat → Prop} {Nf : Nat → Option Nd}
    (h : PgJ W0 w G g p fr to most vs es d t at_ wr i t6 qk dk qv dv qd dd2 us es1 A G1) (hp : PagePre W0 w G g p fr to most vs es (d + 1) t Nf) (hat : atT (d + 1) t = at_) {c : Tr d} (hc : (kidsR t.2)[i]? = some c) :
    PagePre W0 wr G1 g p fr to most (vs ++ (at_ :: us)) es1 d c Nf := by
  have hm := List.mem_of_getElem? hc
  have hfs := flat_split (pgs d) hc
  have hnd : (t.1 :: (kidsR t.2).flatMap (pgs d)).Nodup := hp.nodup
  rw [hfs] at hnd
  have hnd2 := List.nodup_cons.1 hnd
  have hnd3 := List.nodup_append.1 hnd2.2
  have hnd4 := List.nodup_append.1 hnd3.2.1
  have hat' : t.1 = at_ := hat
  have hsub : ∀ k ∈ pgs d c, k ∈ pgs (d + 1) t := fun k hk => List.mem_cons_of_mem _ (List.mem_flatMap.2 ⟨c, hm, hk⟩)
  refine ⟨h.wk, hp.on.2 c hm, asc_kid (toks d) (t := t.2.1) (l := t.2.2) hp.asc hm, .inr ?_, ?_, hnd4.1, by rw [h.eq, List.length_take]; exact Nat.min_le_left _ _, hp.most1, ?_, ?_⟩
  · rcases hp.fit with hf | hf
    · cases hf
    · exact hf.2 c hm
  · intro k hk hv
    rcases List.mem_append.1 hv with hv | hv
    · exact hp.fresh k (hsub k hk) hv
    · rcases List.mem_cons.1 hv with rfl | hv
      · rw [← hat'] at hk
        exact hnd2.1 (List.mem_append_right _ (List.mem_append_left _ hk))
      · exact hnd3.2.2 _ (h.usm k hv) _ (List.mem_append_left _ hk) rfl
  · have h1 := (flK_step (toks d) (t := t.2.1) (l := t.2.2) hp.asc hc).1
    have h2 := h.cnt
    rw [show (kidsR t.2) = kidsR (t.2.1, t.2.2) from rfl, show (keysR t.2) = keysR (t.2.1, t.2.2) from rfl, h1, List.length_append] at h2
    have h3 := hp.few
    rw [h.eq, List.length_take, List.length_append]
    omega
  · have h3 := hp.fewP
    have h4 : (pgs (d + 1) t).length = 1 + ((kidsR t.2).flatMap (pgs d)).length := by
      show (t.1 :: (kidsR t.2).flatMap (pgs d)).length = _
      rw [List.length_cons]; omega
    rw [h4, hfs, List.length_append, List.length_append] at h3
    have h5 : us.length ≤ (((kidsR t.2).take i).flatMap (pgs d)).length := length_le_of_sub h.usn h.usm
    rw [List.length_append, List.length_cons]
    omega
/-- behind a kid -/
theorem PgJ.usn2 {W0 : Nat} {w : World} {G : Nat → Prop} {g p : Nat} {fr to : Tx} {most : Nat} {vs : List Nat} {es : List En} {d : Nat} {t : Tr (d + 1)} {at_ : Nat} {wr : World} {i t6 : Nat} {qk : Option Addr} {dk : Nat} {qv : Option Addr} {dv : Nat} {qd : Option Addr} {dd2 : Nat} {us : List Nat} {es1 A : List En} {G1 : Nat → Prop} {Nf : Nat → Option Nd}
    (h : PgJ W0 w G g p fr to most vs es d t at_ wr i t6 qk dk qv dv qd dd2 us es1 A G1) (hp : PagePre W0 w G g p fr to most vs es (d + 1) t Nf) {c : Tr d} (hc : (kidsR t.2)[i]? = some c) {us2 : List Nat} (hu : ∀ k ∈ us2, k ∈ pgs d c) (hn : us2.Nodup) :
    (us ++ us2).Nodup ∧ ∀ k ∈ us ++ us2, k ∈ ((kidsR t.2).take (i + 1)).flatMap (pgs d) := by
  have hfs := flat_split (pgs d) hc
  have hnd : (t.1 :: (kidsR t.2).flatMap (pgs d)).Nodup := hp.nodup
  rw [hfs] at hnd
  have hnd3 := List.nodup_append.1 (List.nodup_cons.1 hnd).2
  refine ⟨List.nodup_append.2 ⟨h.usn, hn, fun a ha b hb => ?_⟩, fun k hk => ?_⟩
  · exact hnd3.2.2 a (h.usm a ha) b (List.mem_append_left _ (hu b hb))
  · rw [flat_take _ hc]
    rcases List.mem_append.1 hk with hk | hk
    · exact List.mem_append_left _ (h.usm k hk)
    · exact List.mem_append_right _ (hu k hk)
theorem PgJ.next {W0 : Nat} {w : World} {G : Nat → Prop} {g p : Nat} {fr to : Tx} {most : Nat} {vs : List Nat} {es : List En} {d : Nat} {t : Tr (d + 1)} {at_ : Nat} {wr : World} {i t6 : Nat} {qk : Option Addr} {dk : Nat} {qv : Option Addr} {dv : Nat} {qd : Option Addr} {dd2 : Nat} {us : List Nat} {es1 A : List En} {G1 : Nat → Prop} {Nf : Nat → Option Nd}
    (h : PgJ W0 w G g p fr to most vs es d t at_ wr i t6 qk dk qv dv qd dd2 us es1 A G1) (hp : PagePre W0 w G g p fr to most vs es (d + 1) t Nf) {c : Tr d} (hc : (kidsR t.2)[i]? = some c) {us2 : List Nat} {es2 : List En} {G2 : Nat → Prop} {w8 : World} {nq : Nat}
    (hP : PageP d c es1 es2 us2 fr to most true) (hwk : Wk W0 w8 G2 g p fr to most (vs ++ (at_ :: us) ++ us2) es2) (hc2 : Chg G1 (wr.drewN nq) w8) (hg2 : ∀ k, G2 k → G1 k ∨ wr.heap.size ≤ k) :
    PgJ W0 w G g p fr to most vs es d t at_ w8 (i + 1) t6 qk dk qv dv qd dd2 (us ++ us2) es2 (A ++ rngM (ents (toks d c)) fr to) G2 := by
  have hil : i < (kidsR t.2).length := (List.getElem?_eq_some_iff.1 hc).1
  have hst := flK_step (toks d) (t := t.2.1) (l := t.2.2) hp.asc hc
  have hst1 : ents (flK (toks d) ((kidsR t.2).drop i) ((keysR t.2).drop i)) = ents (toks d c) ++ ents (flK (toks d) ((kidsR t.2).drop (i + 1)) ((keysR t.2).drop (i + 1))) := hst.1
  have hu := h.usn2 hp hc hP.2.1 hP.2.2.1
  have hc3 : Chg G1 wr w8 := ⟨hc2.os, hc2.tape, hc2.output, hc2.size, hc2.block⟩
  have hcnt := h.cnt
  have hrl : (rngM (ents (toks d c)) fr to).length ≤ (ents (toks d c)).length := List.length_filter_le _ _
  rw [hst1, List.length_append] at hcnt
  refine ⟨by rw [kidsR_length] at hil; omega, h.tb.chg hc3 h.ng, h.rk.chg hc3 (fun _ b hb _ => (h.bnd b (.inl hb)).1), h.rd.chg hc3 (fun _ b hb _ => (h.bnd b (.inr hb)).1), ?_, ?_, ?_, ?_, ?_, ?_, ?_, ?_, hu.2, hu.1, ?_⟩
  · intro b hb
    have h1 := h.bnd b hb
    have := hc3.size
    refine ⟨fun h2 => ?_, by omega⟩
    rcases hg2 b h2 with h3 | h3
    · exact h1.1 h3
    · omega
  · intro h2
    rcases hg2 t6 h2 with h3 | h3
    · exact h.ng h3
    · have := h.tb.lt; omega
  · rw [List.append_assoc] at hwk; exact hwk
  · refine h.chg.trans hc3 (fun k hk h2 => ?_)
    rcases h.g1 k h2 with h3 | h3
    · exact h3
    · omega
  · intro k hk
    have := h.chg.size
    rcases hg2 k hk with h3 | h3
    · exact h.g1 k h3
    · exact .inr (by omega)
  · rw [hP.1.1, h.eq, take_take_app, List.append_assoc]
  · rw [h.rng, hst1, rngM_app, List.append_assoc]
  · rw [List.length_append]; omega
  · intro h1 h2
    rw [h.usall h1 h2, hP.2.2.2 h1 h2 rfl, flat_take _ hc]
theorem PgJ.stop {W0 : Nat} {w : World} {G : Nat → Prop} {g p : Nat} {fr to : Tx} {most : Nat} {vs : List Nat} {es : List En} {d : Nat} {t : Tr (d + 1)} {at_ : Nat} {wr : World} {i t6 : Nat} {qk : Option Addr} {dk : Nat} {qv : Option Addr} {dv : Nat} {qd : Option Addr} {dd2 : Nat} {us : List Nat} {es1 A : List En} {G1 : Nat → Prop} {Nf : Nat → Option Nd}
    (h : PgJ W0 w G g p fr to most vs es d t at_ wr i t6 qk dk qv dv qd dd2 us es1 A G1) (hp : PagePre W0 w G g p fr to most vs es (d + 1) t Nf) (hat : atT (d + 1) t = at_) {c : Tr d} (hc : (kidsR t.2)[i]? = some c) {us2 : List Nat} {es2 : List En} {G2 : Nat → Prop} {w8 : World} {nq : Nat}
    (hP : PageP d c es1 es2 us2 fr to most false) (hwk : Wk W0 w8 G2 g p fr to most (vs ++ (at_ :: us) ++ us2) es2) (hc2 : Chg G1 (wr.drewN nq) w8) (hg2 : ∀ k, G2 k → G1 k ∨ wr.heap.size ≤ k) :
    PageTo W0 w G g p fr to most vs es (d + 1) t (.returned (.tuple #[.bool false, .int .i64 0])) w8 := by
  have hst := flK_step (toks d) (t := t.2.1) (l := t.2.2) hp.asc hc
  have hst1 : ents (flK (toks d) ((kidsR t.2).drop i) ((keysR t.2).drop i)) = ents (toks d c) ++ ents (flK (toks d) ((kidsR t.2).drop (i + 1)) ((keysR t.2).drop (i + 1))) := hst.1
  have hu := h.usn2 hp hc hP.2.1 hP.2.2.1
  have hc3 : Chg G1 wr w8 := ⟨hc2.os, hc2.tape, hc2.output, hc2.size, hc2.block⟩
  have hrg := h.rng
  rw [hst1, rngM_app, ← List.append_assoc] at hrg
  have hes2 : es2 = (es ++ (A ++ rngM (ents (toks d c)) fr to)).take most := by rw [hP.1.1, h.eq, take_take_app, List.append_assoc]
  have hall : ∀ e ∈ ents (toks d c), e ∈ ents (toks (d + 1) t) := by
    intro e he
    obtain ⟨P, Q, h1, _⟩ := row_at (toks d) t.2.1 t.2.2 i c hc
    have h1 : toks (d + 1) t = P ++ toks d c ++ Q := h1
    rw [h1, ents_app, ents_app]
    exact List.mem_append_left _ (List.mem_append_right _ he)
  refine ⟨false, at_ :: (us ++ us2), es2, G2, rfl, ⟨⟨?_, fun _ => ?_⟩, pgJ_mem hat hu.2, pgJ_nodup hat hp.nodup hu.2 hu.1, fun _ _ h => (by cases h)⟩, ?_, ?_, ?_⟩
  · rw [hrg]
    rcases hP.1.2 rfl with h1 | ⟨h1, e, he, h2⟩
    · rw [← List.append_assoc, take_full _ _ _ (by rw [← hes2]; exact h1)]
      exact hes2
    · rw [rngM_high h1 (l := ents (flK (toks d) ((kidsR t.2).drop (i + 1)) ((keysR t.2).drop (i + 1)))) (fun f hf => ltB_le_trans h2 (ltB_asym (hst.2 e he f hf))), List.append_nil]
      exact hes2
  · rcases hP.1.2 rfl with h1 | ⟨h1, e, he, h2⟩
    · exact .inl h1
    · exact .inr ⟨h1, e, hall e he, h2⟩
  · rw [List.append_assoc] at hwk; exact hwk
  · refine h.chg.trans hc3 (fun k hk h2 => ?_)
    rcases h.g1 k h2 with h3 | h3
    · exact h3
    · omega
  · intro k hk
    have := h.chg.size
    rcases hg2 k hk with h3 | h3
    · exact h.g1 k h3
    · exact .inr (by omega)

set_option maxRecDepth 100000 in
set_option maxHeartbeats 16000000 in
theorem page_leaf (W0 g p : Nat) (fr to : Tx) (most : Nat) (Nf : Nat → Option Nd) (dd : Nat) (F : Nat → Prop) (n : Nat) (s : DS) (S T : AS) (op : Bool) (N : Nat) (hVw : Vw T Nf) (hF : ∀ k, F k → k < W0)
    (w : World) (G : Nat → Prop) (vs : List Nat) (es : List En) (t : Tr 0) (hpre : PagePre W0 w G g p fr to most vs es 0 t Nf) (hpg : PgV w p dd F n s S T op N) :
    Calls Try.prog 50 #[.pointer (some ⟨g, 0, none⟩), .int .i64 (atT 0 t : Int)] w (PageTo W0 w G g p fr to most vs es 0 t) := by
  obtain ⟨mp, pp, cp, pk, ck, pv, cv, D, hw0⟩ := hpre.wk
  have HPRE := hid hpre
  have HW := hid hw0
  have HPG := hid hpg
  have HF := hid hF
  have HVW := hid hVw
  
  obtain ⟨at_, hat⟩ : ∃ a, atT 0 t = a := ⟨_, rfl⟩
  have hnode := hpre.on.node
  rw [hat] at hnode
  obtain ⟨nd, hnd⟩ : ∃ x, ndT 0 t = x := ⟨_, rfl⟩
  rw [hnd] at hnode
  obtain ⟨hB, hok, hsz, hlt6⟩ := hVw _ _ hnode
  have HBB := hid hB
  have HOK := hid hok
  have HSZ := hid hsz
  have HND := hid hnd
  have HAT := hid hat
  have hfresh := hpre.fresh at_ (by rw [← hat]; exact at_mem _ _)
  have HFR := hid hfresh
  have hfewP := hpre.fewP
  have hfew := hpre.few
  have hvl : vs.length < 1000000 := by have := List.length_pos_of_mem (at_mem 0 t); omega
  have hm0 := hpre.most0
  have hm1 := hpre.most1
  have HWF : Hid ((Lit.int .i64 (at_ : Int)).wf = true) := hid (wf_small (by omega) (by omega))
  have HKEY : Hid (keyOf Try.prog 3 (.int .i64 (at_ : Int)) = some (.int .i64 (at_ : Int))) := hid (keyOf_int_mk Try.underlying3 HWF.out)
  have OW := hid hw0.map
  have SE := hid hw0.seen
  have IM := hid OW.out.isMap
  have HANY : Hid ((vq vs).any (fun p => p.1 == (at_ : Int)) = false) := hid (by rw [vq_any]; simpa using hfresh)
  obtain ⟨y0, y1, y2, y3, y4, y5, y6, y7, z6, z7⟩ := wk_cells hw0.blk
  have hleaf : nd.leaf = true := by rw [← hnd]; rfl
  have HLF := hid hleaf
  have HGM := hid (show g ≠ mp from fun h => by
    obtain ⟨e9, c9, h9, _⟩ := hw0.map
    have h8 := hw0.blk
    unfold Blk at h8
    rw [h, h9] at h8
    cases h8)
  clear hpre hpg hF hVw hnode hB hok hsz hnd hfresh hleaf hw0
  rw [hat]
  clear hat
  have MW : Hid (∀ w1, w.grownBy w1 (some mp) → w1.cell? ⟨g, 0, none⟩ = some (.pointer (some ⟨p, 0, none⟩)) ∧ w1.cell? ⟨g, 4, none⟩ = some (.map (some mp)) ∧ Chg (fun k => k = mp) w w1) := hid (fun w1 hg => by
    have h1 : Chg (fun k => k = mp) w w1 := (Chg.grown hg).mono (fun k _ h => by injection h with h; exact h.symm)
    have h2 := HW.out.blk.chg h1 HGM.out
    exact ⟨h2.cell 0, h2.cell 4, h1⟩)
  go_enter Try.func50, Try.ntmps50
  go_wp2_with fail
  refine wp_scope_goto 0 (fun _ _ _ => False) rfl (fun _ _ _ h => h.elim) ?_
  · intro K hK
    go_wp2_with (first
      | (at_lookup; refine wpList_lookup_own_int _ rfl _ _ 69 rfl 3 3 .i64 mapKeyed Try.underlying69 Try.underlying3 (mapZero _) mp vs.length _ rfl OW.out _ _ rfl HKEY.out ?_; intro c hat hwc; (have hc := SE.out.count HWF.out hat); rw [HANY.out] at hc; simp at hc; subst hc; clear hat hwc)
      | (at_mapUpdate; refine wpList_mapUpdate_own _ rfl _ _ _ 69 rfl 3 3 mapKeyed Try.underlying69 _ mp vs.length _ rfl OW.out (by unfold maxLen; omega) _ _ _ rfl rfl HKEY.out _ [] (plainElem_int Try.underlying3 (by decide)) ?_; intro w1 hown1 hgrow1; (have OW1 := hid hown1); obtain ⟨m0, m1, m2⟩ := MW.out w1 hgrow1; (have HC1 := hid m2); clear hown1 hgrow1 m2 y0 y4; obtain ⟨c2, hrun, hat2, _⟩ := OW1.out.lookup_int mapKeyed Try.underlying69 Try.underlying3 (mapZero _) HKEY.out; (have hc := put_count IM.out hat2); subst hc; clear hat2))
    have HBD := hid HW.out.bd
    have HIG := hid HW.out.inG
    refine (nread_any w1 p dd F n s S T op N at_ nd (HPG.out.chg HC1.out (fun k hk h => by have := HF.out k hk; have := (HBD.out mp HIG.out.2.1).1; omega)) HBB.out HOK.out HSZ.out).mono ?_
    rintro e2 w2 ⟨qk, dk, qv, dv, qd, dd2, rfl, hown, hb2⟩
    rw [HLF.out]
    have HOWN := hid hown
    have HOWNs := hid hown
    have HC2 := hid (HC1.out.trans (Chg.new hb2 NoFp) (fun _ _ h => h.elim))
    have HCG2 : Hid (Chg G w w2) := hid (HC2.out.mono (fun k _ h => by have h : k = mp := h; rw [h]; exact HIG.out.2.1))
    have hs1 := HC1.out.size
    have hs2 := hb2.size
    have hs20 : w.heap.size ≤ w2.heap.size := Nat.le_trans hs1 hs2
    have hgG := HBD.out g HIG.out.1
    have hmG := HBD.out mp HIG.out.2.1
    have HBK2 := hid (HW.out.blk.chg HC2.out HGM.out)
    have HMP2 := hid (map_chg OW1.out (Chg.new hb2 NoFp) (fun h => h))
    have hmpP : ∀ k, Value.ownBlock (.slice pp vs.length cp) = some k → k ≠ mp := fun k hk h => own_map_ne HW.out.pages HW.out.map (h ▸ hk)
    have hmpK : ∀ k, Value.ownBlock (.slice pk es.length ck) = some k → k ≠ mp := fun k hk h => own_map_ne HW.out.keys HW.out.map (h ▸ hk)
    have hmpV : ∀ k, Value.ownBlock (.slice pv es.length cv) = some k → k ≠ mp := fun k hk h => own_map_ne HW.out.vals HW.out.map (h ▸ hk)
    have HPS2 := hid (own_chg HW.out.pages HC2.out hmpP)
    have HKS2 := hid (own_chg HW.out.keys HC2.out hmpK)
    have HVS2 := hid (own_chg HW.out.vals HC2.out hmpV)
    obtain ⟨y0, y1, y2, y3, y4, y5, y6, y7, z6, z7⟩ := wk_cells HBK2.out
    have z5 := HBK2.out.frozen 5
    have hgl : g < w2.heap.size := by omega
    clear hown hb2 m0 m1 hmpP hmpK hmpV
    unfold ndV
    go_wp2_with (at_builtin; refine wp_keep ?_)
    obtain ⟨t6, ht6⟩ : ∃ b, w2.heap.size = b := ⟨_, rfl⟩
    obtain ⟨w3, hw3⟩ : ∃ x, w2.alloc (.cells #[.bool true, .slice qk nd.keys.length dk, .slice qv nd.vals.length dv, .slice qd nd.kids.length dd2] 59) = x := ⟨_, rfl⟩
    have hal3 : Below w2.heap.size w2 w3 := by rw [← hw3]; exact (Below.refl _ _).alloc (Nat.le_refl _) _
    have HT3 : Hid (Blk w3 t6 [.bool true, .slice qk nd.keys.length dk, .slice qv nd.vals.length dv, .slice qd nd.kids.length dd2] TN) := hid (by rw [← hw3, ← ht6]; exact heap_alloc_new _ _)
    have hs3 : w3.heap.size = t6 + 1 := by rw [← hw3, ← ht6]; simp
    have HBK3 := hid (HBK2.out.chg (Chg.new hal3 NoFp) (fun h => h))
    have HMP3 := hid (map_chg HMP2.out (Chg.new hal3 NoFp) (fun h => h))
    have HPS3 := hid (own_new HPS2.out hal3)
    have HKS3 := hid (own_new HKS2.out hal3)
    have HVS3 := hid (own_new HVS2.out hal3)
    have HNO3 := hid (HOWN.out.new hal3)
    have HC3 := hid (HCG2.out.trans (Chg.new hal3 NoFp) (fun _ _ h => h.elim))
    rw [hw3, ht6]
    rw [ht6] at hs20 hgl hs2
    have HS2 := hid ht6
    clear hw3 hal3 y0 y1 y2 y3 y4 y5 y6 y7 z5 z6 z7 HBK2 HMP2 HPS2 HKS2 HVS2 HOWN HC2
    refine hid ?_
    have HAL := hid (show Below w3.heap.size w3 (w3.alloc (.cells #[.int .i64 (at_ : Int)] TI)) from (Below.refl _ _).alloc (Nat.le_refl _) _)
    have HPA := hid (own_new HPS3.out HAL.out)
    have hW0 : W0 ≤ (w3.alloc (.cells #[.int .i64 (at_ : Int)] TI)).heap.size := by simp; omega
    refine wpList_append_rd rfl _ _ 44 rfl W0 TI _ 1 8 Try.underlying44 infoTI rfl (by decide) _ _ _ rfl HPA.out (.slice (some ⟨t6 + 1, 0, none⟩) 1 1) 1 [.int .i64 (at_ : Int)] rfl (by rw [← hs3]; exact Rd.fresh1 _ _ _) (by simp [Value.oneCell']) (by simp only [maxLen]; omega) (by omega) hW0 ?_
    intro p5 c5 w5 ho5 hg5 hv5
    have hg5 : (w3.alloc (.cells #[.int .i64 (at_ : Int)] TI)).grownBy w5 (Value.ownBlock (.slice pp vs.length cp)) := hg5
    have hc5 : Chg (fun k => Value.ownBlock (.slice pp vs.length cp) = some k) w3 w5 := (Chg.new HAL.out _).trans (Chg.grown hg5) (fun _ _ h => h)
    have hs5 := hc5.size
    have hpl : ∀ k, Value.ownBlock (.slice pp vs.length cp) = some k → G k ∧ k < w.heap.size := fun k hk => ⟨HIG.out.2.2.1 k hk, (HBD.out k (HIG.out.2.2.1 k hk)).2⟩
    have HBK5 := hid (HBK3.out.chg hc5 (own_blk_ne HPS3.out HBK3.out (by decide)))
    have HT5 := hid (HT3.out.chg hc5 (own_blk_ne HPS3.out HT3.out (by decide)))
    have HMP5 := hid (map_chg HMP3.out hc5 (own_map_ne HPS3.out HMP3.out))
    have HKS5 := hid (own_chg HKS3.out hc5 (own_ne HKS3.out HPS3.out (by decide)))
    have HVS5 := hid (own_chg HVS3.out hc5 (own_ne HVS3.out HPS3.out (by decide)))
    have HNK5 := hid (own_chg HNO3.out.keys hc5 (own_ne HNO3.out.keys HPS3.out (by decide)))
    have HNV5 := hid (own_chg HNO3.out.vals hc5 (own_ne HNO3.out.vals HPS3.out (by decide)))
    have HND5 := hid (own_chg HNO3.out.kids hc5 (fun k h1 h2 => by have h3 := (own_lt HNO3.out.kids k h1).1; have h4 := (hpl k h2).2; omega))
    have HC5 := hid (HC3.out.trans hc5 (fun k hk h => HIG.out.2.2.1 k h))
    have hpp5 : ∀ k, Value.ownBlock (.slice p5 (vs.length + 1) c5) = some k → G k ∨ k = t6 + 2 := fun k hk => by
      rcases hv5 with h | h
      · exact .inl (hpl k (h ▸ hk)).1
      · rw [h] at hk; injection hk with hk; simp at hk; omega
    obtain ⟨y0, y1, y2, y3, y4, y5, y6, y7, z6, z7⟩ := wk_cells HBK5.out
    have z5 := HBK5.out.frozen 5
    obtain ⟨k0, k1, k2, k3, _, _, _, _⟩ := four_cells HT5.out
    have hg6 : g ≠ t6 := by omega
    have hg7 : t6 ≠ g := by omega
    obtain ⟨w6, hw6⟩ : ∃ x, w5.setCell ⟨g, 5, none⟩ (.slice p5 (vs.length + 1) c5) = x := ⟨_, rfl⟩
    have hc6 : Chg (fun k => k = g) w5 w6 := by rw [← hw6]; exact Chg.setCell (fp := fun k => k = g) _ rfl _
    have HG1 : Hid (∀ k, (G k ∨ (t6 + 1 ≤ k ∧ k < w6.heap.size)) → G k ∨ t6 + 1 ≤ k) := hid (fun k h => h.imp id And.left)
    have hpw5 : Blk w6 g (wkC p fr to most mp p5 (vs ++ [at_]).length c5 pk es.length ck pv es.length cv) TW := by
      rw [← hw6, List.length_append]
      exact HBK5.out.set 5 _
    have ho5b : w5.ownsRow W0 TI 1 (.slice p5 (vs ++ [at_]).length c5) (vs ++ [at_]).length (kv (vs ++ [at_])) := by
      rw [List.length_append, kv_app]; exact ho5
    have HWK : Hid (WkP W0 w6 (fun k => G k ∨ (t6 + 1 ≤ k ∧ k < w6.heap.size)) g p fr to most (vs ++ [at_]) es mp p5 c5 pk ck pv cv (D.put (.int .i64 (at_ : Int)) (.lit (.int .i64 1)))) := hid
      ⟨hpw5, by
        have hm := map_chg HMP5.out hc6 (fun h => HGM.out h.symm)
        rw [List.length_append]; exact hm,
      by
        have := SE.out.put IM.out (q := ((at_ : Int), ([] : List UInt8))) HANY.out
        rw [show vq (vs ++ [at_]) = vq vs ++ [((at_ : Int), ([] : List UInt8))] by simp]
        exact this,
      own_chg ho5b hc6 (fun k hk h => by have := own_blk_ne ho5b HBK5.out (by decide); rw [h] at hk; exact this hk),
      own_chg HKS5.out hc6 (fun k hk h => by have := own_blk_ne HKS5.out HBK5.out (by decide); rw [h] at hk; exact this hk),
      own_chg HVS5.out hc6 (fun k hk h => by have := own_blk_ne HVS5.out HBK5.out (by decide); rw [h] at hk; exact this hk),
      HW.out.ne,
      ⟨.inl HIG.out.1, .inl HIG.out.2.1, fun k hk => (hpp5 k (by rw [List.length_append] at hk; exact hk)).imp id (fun h => by
          have h9 := (own_lt ho5 k (by rw [List.length_append] at hk; exact hk)).2
          have := hc6.size
          omega), fun k hk => .inl (HIG.out.2.2.2.1 k hk), fun k hk => .inl (HIG.out.2.2.2.2 k hk)⟩,
      fun k hk => by
        have := hc6.size
        rcases hk with hk | hk
        · have := HBD.out k hk; omega
        · omega⟩
    have HT6 := hid (HT5.out.chg hc6 hg7)
    have HNK6 := hid (own_chg HNK5.out hc6 (fun k hk h => by have := (own_lt HNK5.out k hk).1; omega))
    have HNV6 := hid (own_chg HNV5.out hc6 (fun k hk h => by have := (own_lt HNV5.out k hk).1; omega))
    have HND6 := hid (own_chg HND5.out hc6 (fun k hk h => by have := (own_lt HND5.out k hk).1; omega))
    have HC6 := hid (HC5.out.trans hc6 (fun k hk h => by have h : k = g := h; rw [h]; exact HIG.out.1))
    have hs6 : t6 + 1 ≤ w6.heap.size := by have := hc6.size; omega
    have HNL := hid (show ∀ k, Value.ownBlock (.slice qk nd.keys.length dk) = some k ∨ Value.ownBlock (.slice qv nd.vals.length dv) = some k ∨ Value.ownBlock (.slice qd nd.kids.length dd2) = some k → w1.heap.size ≤ k ∧ k < t6 from fun k hk => by
      rw [← HS2.out]
      rcases hk with hk | hk | hk
      · exact own_lt HOWNs.out.keys k hk
      · exact own_lt HOWNs.out.vals k hk
      · exact own_lt HOWNs.out.kids k hk)
    have HW6 := hid hw6
    clear hg5 hv5 ho5 hc5 HAL HPA HBK3 HT3 HMP3 HPS3 HKS3 HVS3 HNO3 HC3 HBK5 HT5 HMP5 HKS5 HVS5 HNK5 HNV5 HND5 HC5 hpl hpp5 hw6 hc6 hpw5 ho5b
    go_wp2_with fail
    rw [HW6.out]
    clear y0 y1 y2 y3 y4 y5 y6 y7 z5 z6 z7 k0 k1 k2 k3 HW6
    have hLn : nd = ndT 0 t := HND.out.symm
    have hkk : nd.keys = t.2.map (·.1) := by rw [hLn]; rfl
    have hvv : nd.vals = t.2.map (·.2) := by rw [hLn]; rfl
    have hl1 : nd.keys.length = t.2.length := by rw [hkk, List.length_map]
    have hl2 : nd.vals.length = t.2.length := by rw [hvv, List.length_map]
    have hr1 := Rd.of_own HNK6.out
    have hr2 := Rd.of_own HNV6.out
    have hnl := HNL.out
    rw [hl1] at hr1 hnl ⊢
    rw [hl2] at hr2 hnl ⊢
    rw [hkk] at hr1
    rw [hvv] at hr2
    have hsrt := HPRE.out.asc.srt
    have hen : ents (toks 0 t) = t.2 := ents_leaf t.2
    rw [hen] at hsrt hfew
    have hW6 : W0 ≤ w6.heap.size := by omega
    have hk251 := (keys_lt HOK.out HSZ.out).1
    rw [hl1] at hk251
    have hGlt : ∀ k, G k → k < w.heap.size := fun k hk => (HBD.out k hk).2
    refine (keep_any w6 g p fr to most mp p5 _ c5 pk ck pv cv es t.2 es.length t.2.length W0 qk dk qv dv qd nd.kids.length dd2 HWK.out.blk HWK.out.keys HWK.out.vals HWK.out.ne hW6 rfl rfl (by omega) (by omega) hm0 hm1 hsrt hr1 hr2 (fun b hb => by
      have h1 := hnl b (hb.imp id (fun h => .inl h))
      refine ⟨fun h => ?_, fun h => ?_, fun h => ?_⟩
      · have h2 := hGlt b (HIG.out.2.2.2.1 b h); omega
      · have h2 := hGlt b (HIG.out.2.2.2.2 b h); omega
      · omega)).mono ?_
    rintro e7 w7 ⟨more, es', pk', ck', pv', cv', rfl, hkeep, hblk, hk7, hv7, hne7, hc7, hpk7, hpv7⟩
    have hs7 := hc7.size
    have HFIN : Hid (PageTo W0 w G g p fr to most vs es 0 t (.returned (.tuple #[.bool more, .int .i64 0])) w7) := hid (by
      refine ⟨more, [at_], es', fun k => G k ∨ (w.heap.size ≤ k ∧ k < w7.heap.size), rfl, ⟨⟨by rw [hen]; exact hkeep.1, by rw [hen]; exact hkeep.2.2⟩, fun k hk => by rw [List.mem_singleton.1 hk, ← HAT.out]; exact at_mem 0 t, by simp, fun _ _ _ => by rw [← HAT.out]; rfl⟩, ⟨mp, p5, c5, pk', ck', pv', cv', _, ⟨hblk, ?_, HWK.out.seen, ?_, hk7, hv7, hne7, ?_, ?_⟩⟩, ?_, ?_⟩
      · refine map_chg HWK.out.map hc7 (fun h => ?_)
        rcases h with h | h | h
        · exact HGM.out h.symm
        · exact own_map_ne HWK.out.keys HWK.out.map h
        · exact own_map_ne HWK.out.vals HWK.out.map h
      · refine own_chg HWK.out.pages hc7 (fun k hk h => ?_)
        rcases h with h | h | h
        · have := own_blk_ne HWK.out.pages HWK.out.blk (by decide); rw [h] at hk; exact this hk
        · exact own_ne HWK.out.pages HWK.out.keys (by decide) k hk h
        · exact own_ne HWK.out.pages HWK.out.vals (by decide) k hk h
      · refine ⟨.inl HIG.out.1, .inl HIG.out.2.1, fun k hk => ?_, fun k hk => ?_, fun k hk => ?_⟩
        · rcases HG1.out k (HWK.out.inG.2.2.1 k hk) with h | h
          · exact .inl h
          · have := (own_lt HWK.out.pages k hk).2; exact .inr ⟨by omega, by omega⟩
        · rcases hpk7 k hk with h | h
          · exact .inl (HIG.out.2.2.2.1 k h)
          · have := (own_lt hk7 k hk).2; exact .inr ⟨by omega, this⟩
        · rcases hpv7 k hk with h | h
          · exact .inl (HIG.out.2.2.2.2 k h)
          · have := (own_lt hv7 k hk).2; exact .inr ⟨by omega, this⟩
      · intro k hk
        rcases hk with hk | hk
        · have := HBD.out k hk; omega
        · omega
      · refine HC6.out.trans hc7 (fun k hk h => ?_)
        rcases h with h | h | h
        · rw [h]; exact HIG.out.1
        · exact HIG.out.2.2.2.1 k h
        · exact HIG.out.2.2.2.2 k h
      · intro k hk
        rcases hk with hk | hk
        · exact .inl hk
        · exact .inr hk.1)
    clear hkeep hblk hk7 hv7 hne7 hc7 hpk7 hpv7
    go_wp2_with fail
    go_ret2
    exact HFIN.out


set_option maxRecDepth 100000 in
set_option maxHeartbeats 16000000 in
theorem page_inner (d : Nat) (W0 g p : Nat) (fr to : Tx) (most : Nat) (Nf : Nat → Option Nd) (dd : Nat) (F : Nat → Prop) (n : Nat) (s : DS) (S T : AS) (op : Bool) (N : Nat) (hVw : Vw T Nf) (hF : ∀ k, F k → k < W0)
    (ih : ∀ (w : World) (G : Nat → Prop) (vs : List Nat) (es : List En) (t : Tr d), PagePre W0 w G g p fr to most vs es d t Nf → PgV w p dd F n s S T op N →
      Calls Try.prog 50 #[.pointer (some ⟨g, 0, none⟩), .int .i64 (atT d t : Int)] w (PageTo W0 w G g p fr to most vs es d t))
    (w : World) (G : Nat → Prop) (vs : List Nat) (es : List En) (t : Tr (d + 1)) (hpre : PagePre W0 w G g p fr to most vs es (d + 1) t Nf) (hpg : PgV w p dd F n s S T op N) :
    Calls Try.prog 50 #[.pointer (some ⟨g, 0, none⟩), .int .i64 (atT (d + 1) t : Int)] w (PageTo W0 w G g p fr to most vs es (d + 1) t) := by
  obtain ⟨mp, pp, cp, pk, ck, pv, cv, D, hw0⟩ := hpre.wk
  have HPRE := hid hpre
  have HW := hid hw0
  have HPG := hid hpg
  have HF := hid hF
  have HVW := hid hVw
  have IH := hid ih
  obtain ⟨at_, hat⟩ : ∃ a, atT (d + 1) t = a := ⟨_, rfl⟩
  have hnode := hpre.on.node
  rw [hat] at hnode
  obtain ⟨nd, hnd⟩ : ∃ x, ndT (d + 1) t = x := ⟨_, rfl⟩
  rw [hnd] at hnode
  obtain ⟨hB, hok, hsz, hlt6⟩ := hVw _ _ hnode
  have HBB := hid hB
  have HOK := hid hok
  have HSZ := hid hsz
  have HND := hid hnd
  have HAT := hid hat
  have hfresh := hpre.fresh at_ (by rw [← hat]; exact at_mem _ _)
  have HFR := hid hfresh
  have hfewP := hpre.fewP
  have hfew := hpre.few
  have hvl : vs.length < 1000000 := by have := List.length_pos_of_mem (at_mem (d + 1) t); omega
  have hm0 := hpre.most0
  have hm1 := hpre.most1
  have HWF : Hid ((Lit.int .i64 (at_ : Int)).wf = true) := hid (wf_small (by omega) (by omega))
  have HKEY : Hid (keyOf Try.prog 3 (.int .i64 (at_ : Int)) = some (.int .i64 (at_ : Int))) := hid (keyOf_int_mk Try.underlying3 HWF.out)
  have OW := hid hw0.map
  have SE := hid hw0.seen
  have IM := hid OW.out.isMap
  have HANY : Hid ((vq vs).any (fun p => p.1 == (at_ : Int)) = false) := hid (by rw [vq_any]; simpa using hfresh)
  obtain ⟨y0, y1, y2, y3, y4, y5, y6, y7, z6, z7⟩ := wk_cells hw0.blk
  have hleaf : nd.leaf = false := by rw [← hnd]; rfl
  have HLF := hid hleaf
  have HGM := hid (show g ≠ mp from fun h => by
    obtain ⟨e9, c9, h9, _⟩ := hw0.map
    have h8 := hw0.blk
    unfold Blk at h8
    rw [h, h9] at h8
    cases h8)
  clear hpre hpg hF hVw hnode hB hok hsz hnd hfresh hleaf hw0 ih
  rw [hat]
  clear hat
  have MW : Hid (∀ w1, w.grownBy w1 (some mp) → w1.cell? ⟨g, 0, none⟩ = some (.pointer (some ⟨p, 0, none⟩)) ∧ w1.cell? ⟨g, 4, none⟩ = some (.map (some mp)) ∧ Chg (fun k => k = mp) w w1) := hid (fun w1 hg => by
    have h1 : Chg (fun k => k = mp) w w1 := (Chg.grown hg).mono (fun k _ h => by injection h with h; exact h.symm)
    have h2 := HW.out.blk.chg h1 HGM.out
    exact ⟨h2.cell 0, h2.cell 4, h1⟩)
  go_enter Try.func50, Try.ntmps50
  go_wp2_with fail
  refine wp_scope_goto 0 (pageJ W0 w G g p fr to most vs es d t at_) rfl ?pass ?first
  case first =>
    intro K hK
    go_wp2_with (first
      | (at_lookup; refine wpList_lookup_own_int _ rfl _ _ 69 rfl 3 3 .i64 mapKeyed Try.underlying69 Try.underlying3 (mapZero _) mp vs.length _ rfl OW.out _ _ rfl HKEY.out ?_; intro c hat hwc; (have hc := SE.out.count HWF.out hat); rw [HANY.out] at hc; simp at hc; subst hc; clear hat hwc)
      | (at_mapUpdate; refine wpList_mapUpdate_own _ rfl _ _ _ 69 rfl 3 3 mapKeyed Try.underlying69 _ mp vs.length _ rfl OW.out (by unfold maxLen; omega) _ _ _ rfl rfl HKEY.out _ [] (plainElem_int Try.underlying3 (by decide)) ?_; intro w1 hown1 hgrow1; (have OW1 := hid hown1); obtain ⟨m0, m1, m2⟩ := MW.out w1 hgrow1; (have HC1 := hid m2); clear hown1 hgrow1 m2 y0 y4; obtain ⟨c2, hrun, hat2, _⟩ := OW1.out.lookup_int mapKeyed Try.underlying69 Try.underlying3 (mapZero _) HKEY.out; (have hc := put_count IM.out hat2); subst hc; clear hat2))
    have HBD := hid HW.out.bd
    have HIG := hid HW.out.inG
    refine (nread_any w1 p dd F n s S T op N at_ nd (HPG.out.chg HC1.out (fun k hk h => by have := HF.out k hk; have := (HBD.out mp HIG.out.2.1).1; omega)) HBB.out HOK.out HSZ.out).mono ?_
    rintro e2 w2 ⟨qk, dk, qv, dv, qd, dd2, rfl, hown, hb2⟩
    rw [HLF.out]
    have HOWN := hid hown
    have HOWNs := hid hown
    have HC2 := hid (HC1.out.trans (Chg.new hb2 NoFp) (fun _ _ h => h.elim))
    have HCG2 : Hid (Chg G w w2) := hid (HC2.out.mono (fun k _ h => by have h : k = mp := h; rw [h]; exact HIG.out.2.1))
    have hs1 := HC1.out.size
    have hs2 := hb2.size
    have hs20 : w.heap.size ≤ w2.heap.size := Nat.le_trans hs1 hs2
    have hgG := HBD.out g HIG.out.1
    have hmG := HBD.out mp HIG.out.2.1
    have HBK2 := hid (HW.out.blk.chg HC2.out HGM.out)
    have HMP2 := hid (map_chg OW1.out (Chg.new hb2 NoFp) (fun h => h))
    have hmpP : ∀ k, Value.ownBlock (.slice pp vs.length cp) = some k → k ≠ mp := fun k hk h => own_map_ne HW.out.pages HW.out.map (h ▸ hk)
    have hmpK : ∀ k, Value.ownBlock (.slice pk es.length ck) = some k → k ≠ mp := fun k hk h => own_map_ne HW.out.keys HW.out.map (h ▸ hk)
    have hmpV : ∀ k, Value.ownBlock (.slice pv es.length cv) = some k → k ≠ mp := fun k hk h => own_map_ne HW.out.vals HW.out.map (h ▸ hk)
    have HPS2 := hid (own_chg HW.out.pages HC2.out hmpP)
    have HKS2 := hid (own_chg HW.out.keys HC2.out hmpK)
    have HVS2 := hid (own_chg HW.out.vals HC2.out hmpV)
    obtain ⟨y0, y1, y2, y3, y4, y5, y6, y7, z6, z7⟩ := wk_cells HBK2.out
    have z5 := HBK2.out.frozen 5
    have hgl : g < w2.heap.size := by omega
    clear hown hb2 m0 m1 hmpP hmpK hmpV
    unfold ndV
    go_wp2_with (at_builtin; refine wp_keep ?_)
    obtain ⟨t6, ht6⟩ : ∃ b, w2.heap.size = b := ⟨_, rfl⟩
    obtain ⟨w3, hw3⟩ : ∃ x, w2.alloc (.cells #[.bool false, .slice qk nd.keys.length dk, .slice qv nd.vals.length dv, .slice qd nd.kids.length dd2] 59) = x := ⟨_, rfl⟩
    have hal3 : Below w2.heap.size w2 w3 := by rw [← hw3]; exact (Below.refl _ _).alloc (Nat.le_refl _) _
    have HT3 : Hid (Blk w3 t6 [.bool false, .slice qk nd.keys.length dk, .slice qv nd.vals.length dv, .slice qd nd.kids.length dd2] TN) := hid (by rw [← hw3, ← ht6]; exact heap_alloc_new _ _)
    have hs3 : w3.heap.size = t6 + 1 := by rw [← hw3, ← ht6]; simp
    have HBK3 := hid (HBK2.out.chg (Chg.new hal3 NoFp) (fun h => h))
    have HMP3 := hid (map_chg HMP2.out (Chg.new hal3 NoFp) (fun h => h))
    have HPS3 := hid (own_new HPS2.out hal3)
    have HKS3 := hid (own_new HKS2.out hal3)
    have HVS3 := hid (own_new HVS2.out hal3)
    have HNO3 := hid (HOWN.out.new hal3)
    have HC3 := hid (HCG2.out.trans (Chg.new hal3 NoFp) (fun _ _ h => h.elim))
    rw [hw3, ht6]
    rw [ht6] at hs20 hgl hs2
    have HS2 := hid ht6
    clear hw3 hal3 y0 y1 y2 y3 y4 y5 y6 y7 z5 z6 z7 HBK2 HMP2 HPS2 HKS2 HVS2 HOWN HC2
    refine hid ?_
    have HAL := hid (show Below w3.heap.size w3 (w3.alloc (.cells #[.int .i64 (at_ : Int)] TI)) from (Below.refl _ _).alloc (Nat.le_refl _) _)
    have HPA := hid (own_new HPS3.out HAL.out)
    have hW0 : W0 ≤ (w3.alloc (.cells #[.int .i64 (at_ : Int)] TI)).heap.size := by simp; omega
    refine wpList_append_rd rfl _ _ 44 rfl W0 TI _ 1 8 Try.underlying44 infoTI rfl (by decide) _ _ _ rfl HPA.out (.slice (some ⟨t6 + 1, 0, none⟩) 1 1) 1 [.int .i64 (at_ : Int)] rfl (by rw [← hs3]; exact Rd.fresh1 _ _ _) (by simp [Value.oneCell']) (by simp only [maxLen]; omega) (by omega) hW0 ?_
    intro p5 c5 w5 ho5 hg5 hv5
    have hg5 : (w3.alloc (.cells #[.int .i64 (at_ : Int)] TI)).grownBy w5 (Value.ownBlock (.slice pp vs.length cp)) := hg5
    have hc5 : Chg (fun k => Value.ownBlock (.slice pp vs.length cp) = some k) w3 w5 := (Chg.new HAL.out _).trans (Chg.grown hg5) (fun _ _ h => h)
    have hs5 := hc5.size
    have hpl : ∀ k, Value.ownBlock (.slice pp vs.length cp) = some k → G k ∧ k < w.heap.size := fun k hk => ⟨HIG.out.2.2.1 k hk, (HBD.out k (HIG.out.2.2.1 k hk)).2⟩
    have HBK5 := hid (HBK3.out.chg hc5 (own_blk_ne HPS3.out HBK3.out (by decide)))
    have HT5 := hid (HT3.out.chg hc5 (own_blk_ne HPS3.out HT3.out (by decide)))
    have HMP5 := hid (map_chg HMP3.out hc5 (own_map_ne HPS3.out HMP3.out))
    have HKS5 := hid (own_chg HKS3.out hc5 (own_ne HKS3.out HPS3.out (by decide)))
    have HVS5 := hid (own_chg HVS3.out hc5 (own_ne HVS3.out HPS3.out (by decide)))
    have HNK5 := hid (own_chg HNO3.out.keys hc5 (own_ne HNO3.out.keys HPS3.out (by decide)))
    have HNV5 := hid (own_chg HNO3.out.vals hc5 (own_ne HNO3.out.vals HPS3.out (by decide)))
    have HND5 := hid (own_chg HNO3.out.kids hc5 (fun k h1 h2 => by have h3 := (own_lt HNO3.out.kids k h1).1; have h4 := (hpl k h2).2; omega))
    have HC5 := hid (HC3.out.trans hc5 (fun k hk h => HIG.out.2.2.1 k h))
    have hpp5 : ∀ k, Value.ownBlock (.slice p5 (vs.length + 1) c5) = some k → G k ∨ k = t6 + 2 := fun k hk => by
      rcases hv5 with h | h
      · exact .inl (hpl k (h ▸ hk)).1
      · rw [h] at hk; injection hk with hk; simp at hk; omega
    obtain ⟨y0, y1, y2, y3, y4, y5, y6, y7, z6, z7⟩ := wk_cells HBK5.out
    have z5 := HBK5.out.frozen 5
    obtain ⟨k0, k1, k2, k3, _, _, _, _⟩ := four_cells HT5.out
    have hg6 : g ≠ t6 := by omega
    have hg7 : t6 ≠ g := by omega
    obtain ⟨w6, hw6⟩ : ∃ x, w5.setCell ⟨g, 5, none⟩ (.slice p5 (vs.length + 1) c5) = x := ⟨_, rfl⟩
    have hc6 : Chg (fun k => k = g) w5 w6 := by rw [← hw6]; exact Chg.setCell (fp := fun k => k = g) _ rfl _
    have HG1 : Hid (∀ k, (G k ∨ (t6 + 1 ≤ k ∧ k < w6.heap.size)) → G k ∨ t6 + 1 ≤ k) := hid (fun k h => h.imp id And.left)
    have hpw5 : Blk w6 g (wkC p fr to most mp p5 (vs ++ [at_]).length c5 pk es.length ck pv es.length cv) TW := by
      rw [← hw6, List.length_append]
      exact HBK5.out.set 5 _
    have ho5b : w5.ownsRow W0 TI 1 (.slice p5 (vs ++ [at_]).length c5) (vs ++ [at_]).length (kv (vs ++ [at_])) := by
      rw [List.length_append, kv_app]; exact ho5
    have HWK : Hid (WkP W0 w6 (fun k => G k ∨ (t6 + 1 ≤ k ∧ k < w6.heap.size)) g p fr to most (vs ++ [at_]) es mp p5 c5 pk ck pv cv (D.put (.int .i64 (at_ : Int)) (.lit (.int .i64 1)))) := hid
      ⟨hpw5, by
        have hm := map_chg HMP5.out hc6 (fun h => HGM.out h.symm)
        rw [List.length_append]; exact hm,
      by
        have := SE.out.put IM.out (q := ((at_ : Int), ([] : List UInt8))) HANY.out
        rw [show vq (vs ++ [at_]) = vq vs ++ [((at_ : Int), ([] : List UInt8))] by simp]
        exact this,
      own_chg ho5b hc6 (fun k hk h => by have := own_blk_ne ho5b HBK5.out (by decide); rw [h] at hk; exact this hk),
      own_chg HKS5.out hc6 (fun k hk h => by have := own_blk_ne HKS5.out HBK5.out (by decide); rw [h] at hk; exact this hk),
      own_chg HVS5.out hc6 (fun k hk h => by have := own_blk_ne HVS5.out HBK5.out (by decide); rw [h] at hk; exact this hk),
      HW.out.ne,
      ⟨.inl HIG.out.1, .inl HIG.out.2.1, fun k hk => (hpp5 k (by rw [List.length_append] at hk; exact hk)).imp id (fun h => by
          have h9 := (own_lt ho5 k (by rw [List.length_append] at hk; exact hk)).2
          have := hc6.size
          omega), fun k hk => .inl (HIG.out.2.2.2.1 k hk), fun k hk => .inl (HIG.out.2.2.2.2 k hk)⟩,
      fun k hk => by
        have := hc6.size
        rcases hk with hk | hk
        · have := HBD.out k hk; omega
        · omega⟩
    have HT6 := hid (HT5.out.chg hc6 hg7)
    have HNK6 := hid (own_chg HNK5.out hc6 (fun k hk h => by have := (own_lt HNK5.out k hk).1; omega))
    have HNV6 := hid (own_chg HNV5.out hc6 (fun k hk h => by have := (own_lt HNV5.out k hk).1; omega))
    have HND6 := hid (own_chg HND5.out hc6 (fun k hk h => by have := (own_lt HND5.out k hk).1; omega))
    have HC6 := hid (HC5.out.trans hc6 (fun k hk h => by have h : k = g := h; rw [h]; exact HIG.out.1))
    have hs6 : t6 + 1 ≤ w6.heap.size := by have := hc6.size; omega
    have HNL := hid (show ∀ k, Value.ownBlock (.slice qk nd.keys.length dk) = some k ∨ Value.ownBlock (.slice qv nd.vals.length dv) = some k ∨ Value.ownBlock (.slice qd nd.kids.length dd2) = some k → w1.heap.size ≤ k ∧ k < t6 from fun k hk => by
      rw [← HS2.out]
      rcases hk with hk | hk | hk
      · exact own_lt HOWNs.out.keys k hk
      · exact own_lt HOWNs.out.vals k hk
      · exact own_lt HOWNs.out.kids k hk)
    have HW6 := hid hw6
    clear hg5 hv5 ho5 hc5 HAL HPA HBK3 HT3 HMP3 HPS3 HKS3 HVS3 HNO3 HC3 HBK5 HT5 HMP5 HKS5 HVS5 HNK5 HNV5 HND5 HC5 hpl hpp5 hw6 hc6 hpw5 ho5b
    go_wp2_with fail
    rw [HW6.out]
    clear y0 y1 y2 y3 y4 y5 y6 y7 z5 z6 z7 k0 k1 k2 k3 HW6
    have hLn : nd = ndT (d + 1) t := HND.out.symm
    have hkk : nd.keys = keysR t.2 := by rw [hLn]; rfl
    have hvv : nd.vals = [] := by rw [hLn]; rfl
    have hdd : nd.kids = (kidsR t.2).map (atT d) := by rw [hLn]; rfl
    have hl1 : nd.keys.length = (keysR t.2).length := by rw [hkk]
    have hl2 : nd.vals.length = 0 := by rw [hvv]; rfl
    have hl3 : nd.kids.length = (keysR t.2).length + 1 := by rw [hdd, List.length_map, kidsR_length]
    have hr1 := Rd.of_own HNK6.out
    have hr3 := Rd.of_own HND6.out
    have hnl := HNL.out
    have hT6 := HT6.out
    rw [hl1] at hr1 hnl hT6 ⊢
    rw [hl2] at hnl hT6 ⊢
    rw [hl3] at hr3 hnl hT6 ⊢
    rw [hkk] at hr1
    rw [hdd] at hr3
    have hasc : Asc (fl (toks d) (t.2.1, t.2.2)) := HPRE.out.asc
    have hks := asc_keys (toks d) t.2.2 t.2.1 hasc
    have hk251 := (keys_lt HOK.out HSZ.out).1
    rw [hl1] at hk251
    have HR1 := hid hr1
    have HR3 := hid hr3
    have HNL2 := hid hnl
    have HTT := hid hT6
    have HASC := hid hasc
    have HKS := hid hks
    have hle0 := downP_le (keysR (t.2.1, t.2.2)) fr
    have HLOW := hid (flK_low (toks d) hasc fr to)
    have HDN := hid (show fr = [] → downP (keysR t.2) fr = 0 from fun h => by
      rw [h]
      refine down_nil ?_
      rcases HPRE.out.fit with hf | hf
      · cases hf
      · exact keys_ne HPRE.out.asc hf)
    clear hLn hkk hvv hdd hl1 hl2 hl3 hr1 hr3 hnl hT6 hasc hks
    refine wp_region_plan (fun w' => Blk w' t6 [.bool false, .slice qk (keysR t.2).length dk, .slice qv 0 dv, .slice qd ((keysR t.2).length + 1) dd2] TN ∧ w'.cell? ⟨g, 1, none⟩ = some (.string (B fr))) (fun j => !([5].contains j)) (fun _ => false)
      (.of [0, 1, 2, 3, 4, 5, 6]) (by kernel_rfl) (by kernel_rfl) rfl (by kernel_rfl) (by kernel_rfl) ⟨HTT.out, HWK.out.blk.cell 1⟩ ?_
    iterate 5 (apply wpPlan_val; (case ho => rfl); (case hst => rfl); (case hw => rfl); (case hv => intro w' hS; obtain ⟨x8, x9, x10, x11, _, _, _, _⟩ := four_cells hS.1; have x12 := hS.2; go_simp; first | done | rfl); intro K hK; go_simp; refine hK _ ?_; clear hK K)
    refine wpPlan_list rfl rfl rfl (fun K hK => ?_)
    refine wpList_step (fun K2 hK2 => ?_)
    go_simp
    refine (down_any w6.drew ⟨false, keysR t.2, [], []⟩ false qk (keysR t.2).length dk qv 0 dv qd ((keysR t.2).length + 1) dd2 fr HR1.out rfl HKS.out (by omega)).mono ?_
    rintro e7 w7 ⟨rfl, hb7⟩
    have hb7 : Below w6.heap.size w6 w7 := (below_drewN (Below.refl _ _) 1).trans hb7
    have HB7 := hid hb7
    go_simp
    refine hK2 _ _ ?_
    clear hK2 K2 hb7
    simp only [wpList]
    refine hK _ _ (fun _ => ⟨HTT.out.chg (Chg.new HB7.out NoFp) (fun h => h), (HB7.out.cell (p := ⟨g, 1, none⟩) (show g < w6.heap.size by omega)).trans (HWK.out.blk.cell 1)⟩) ?_
    clear hK K
    apply wpPlan_val
    case ho => rfl
    case hst => rfl
    case hw => rfl
    case hv => intro w' hS; go_simp; first | done | rfl
    intro K hK
    go_simp
    refine hK _ ?_
    clear hK K
    refine wpPlan_nil ?_
    simp only [Qn]
    obtain ⟨i0, hi0⟩ : ∃ i, downP (keysR t.2) fr = i := ⟨_, rfl⟩
    have hGlt : ∀ k, G k → k < w.heap.size := fun k hk => (HBD.out k hk).2
    have HJ : Hid (PgJ W0 w G g p fr to most vs es d t at_ w7 i0 t6 qk dk qv dv qd dd2 [] es [] (fun k => G k ∨ (t6 + 1 ≤ k ∧ k < w6.heap.size))) := hid (by
      have hc7 : Chg NoFp w6 w7 := Chg.new HB7.out NoFp
      have hs7 := hc7.size
      refine ⟨by rw [← hi0]; exact Nat.le_succ_of_le (downP_le (keysR t.2) fr), HTT.out.chg hc7 (fun h => h), HR1.out.chg hc7 (fun _ _ _ _ h => h), HR3.out.chg hc7 (fun _ _ _ _ h => h), ?_, ?_, ?_, ?_, ?_, ?_, ?_, ?_, ?_, ?_, ?_⟩
      · intro b hb
        have h1 := HNL2.out b (by rcases hb with h | h; exact .inl h; exact .inr (.inr h))
        refine ⟨fun h => ?_, by omega⟩
        rcases h with h | h
        · have := hGlt b h; omega
        · omega
      · intro h
        rcases h with h | h
        · have := hGlt t6 h; omega
        · omega
      · exact Wk.chg ⟨mp, p5, c5, pk, ck, pv, cv, _, HWK.out⟩ hc7 (fun _ _ h => h)
      · exact HC6.out.trans hc7 (fun _ _ h => h.elim)
      · intro k hk
        rcases hk with h | h
        · exact .inl h
        · exact .inr (by omega)
      · rw [List.append_nil, List.take_of_length_le hm0]
      · rw [← hi0, List.nil_append]; exact HLOW.out.1
      · rw [← hi0, List.length_nil, Nat.zero_add]; exact HLOW.out.2
      · intro k hk; cases hk
      · exact List.nodup_nil
      · intro h1 _
        rw [← hi0, HDN.out h1]
        rfl)
    rw [hi0]
    clear HTT HR1 HR3 HWK HC6 HB7 HLOW HDN hle0 hi0
    go_wp2_with fail
    refine wp_label ?_
    simp only [Exit.then]
    rename_i hK'
    exact hK' _ _ (hK _ _ _ (pageJ_mk rfl rfl rfl rfl rfl rfl HJ))
  case pass =>
    rintro m a wr ⟨i, t6, qk, dk, qv, dv, qd, dd2, us, es1, A, G1, u, rfl, HJ, u0, u1, u6, u8, rfl⟩ K hK
    rw [u0, u1, u6, u8]
    clear u0 u1 u6 u8
    have HK := hid hK; clear hK
    obtain ⟨mp1, pp1, cp1, pk1, ck1, pv1, cv1, D1, hw1⟩ := HJ.out.wk
    obtain ⟨y0, y1, y2, y3, y4, y5, y6, y7, _, _⟩ := wk_cells hw1.blk
    obtain ⟨k0, k1, k2, k3, _, _, _, _⟩ := four_cells HJ.out.tb
    have HW1 := hid hw1
    have hle := HJ.out.le
    have hk251 : (keysR t.2).length ≤ 251 := by have := (keys_lt HOK.out HSZ.out).1; rw [← HND.out] at this; exact this
    have hgl := hw1.blk.lt
    clear hw1
    by_cases hie : i = (keysR t.2).length + 1
    · have hie2 : (i : Int) = ((keysR t.2).length : Int) + 1 := by omega
      have HFIN : Hid (∀ nq, PageTo W0 w G g p fr to most vs es (d + 1) t (.returned (.tuple #[.bool true, .int .i64 0])) (wr.drewN nq)) := hid (fun nq => by
        have hj := HJ.out.drewN nq
        have h1 := hj.rng
        rw [List.drop_eq_nil_of_le (by rw [kidsR_length]; omega)] at h1
        refine ⟨true, at_ :: us, es1, G1, rfl, ⟨⟨by rw [h1, hj.eq]; simp [flK, ents_nil, rngM], fun h => by cases h⟩, ?_, ?_, ?_⟩, hj.wk, hj.chg, hj.g1⟩
        · exact pgJ_mem HAT.out HJ.out.usm
        · exact pgJ_nodup HAT.out HPRE.out.nodup HJ.out.usm HJ.out.usn
        · intro h2 h3 _
          have h4 := HJ.out.usall h2 h3
          rw [List.take_of_length_le (by rw [kidsR_length]; omega)] at h4
          rw [h4, ← HAT.out]
          rfl)
      go_wp2_with fail
      go_quiet (fail)
      go_wp2_with fail
      try rw [Exit.jump_ret]
      go_ret2
      exact HFIN.out _
    · have hie2 : ¬ (i : Int) = ((keysR t.2).length : Int) + 1 := by omega
      have hil : i < (kidsR t.2).length := by rw [kidsR_length]; omega
      obtain ⟨cc, hcc⟩ : ∃ c, (kidsR t.2)[i]? = some c := ⟨_, List.getElem?_eq_getElem hil⟩
      obtain ⟨bd, od, hqd, hcd⟩ := HJ.out.rd.addr (by omega)
      have hcell : wr.cell? ⟨bd, od + i, none⟩ = some (.int .i64 (atT d cc : Int)) := hcd i _ (kv_get (by rw [List.getElem?_map, hcc]; rfl))
      have HCC := hid hcc
      have hi3 : (i : Int) < ((keysR t.2).length : Int) + 1 := by omega
      subst hqd
      clear hcc hcd
      have HASC := hid (show Asc (fl (toks d) (t.2.1, t.2.2)) from HPRE.out.asc)
      have HSTOP : Hid (∀ k, 0 < i → (keysR t.2)[i - 1]? = some k → to ≠ [] → ltB k to = false → ∀ nq, PageTo W0 w G g p fr to most vs es (d + 1) t (.returned (.tuple #[.bool true, .int .i64 0])) (wr.drewN nq)) := hid (fun k h0 hk hto hkt nq => by
        have hj := HJ.out.drewN nq
        have h1 := hj.rng
        rw [flK_stop (toks d) HASC.out h0 hil hk hto hkt, List.append_nil] at h1
        refine ⟨true, at_ :: us, es1, G1, rfl, ⟨⟨by rw [h1, hj.eq], fun h => by cases h⟩, pgJ_mem HAT.out HJ.out.usm, pgJ_nodup HAT.out HPRE.out.nodup HJ.out.usm HJ.out.usn, fun _ h3 _ => absurd h3 hto⟩, hj.wk, hj.chg, hj.g1⟩)
      have HCALL : Hid (∀ nq, Calls Try.prog 50 #[.pointer (some ⟨g, 0, none⟩), .int .i64 (atT d cc : Int)] (wr.drewN nq) (PageTo W0 (wr.drewN nq) G1 g p fr to most (vs ++ (at_ :: us)) es1 d cc)) := hid (fun nq =>
        IH.out (wr.drewN nq) G1 (vs ++ (at_ :: us)) es1 cc ((HJ.out.drewN nq).pre HPRE.out HAT.out HCC.out) (HPG.out.chg (HJ.out.drewN nq).chg (fun k hk h => by have := HF.out k hk; have := (HW.out.bd k h).1; omega)))
      by_cases hi0 : i = 0
      case' pos =>
        subst hi0
        rw [Nat.add_zero] at hcell
        have hie3 : ¬ (0 : Int) = ((keysR t.2).length : Int) + 1 := by omega
        have hie4 : ((0 : Int) == ((keysR t.2).length : Int) + 1) = false := by rw [beq_eq_false_iff_ne]; exact hie3
        go_wp2_with fail
        go_quiet (fail)
        go_wp2_with fail
      case' neg =>
        have hi02 : (0 : Int) < (i : Int) := by omega
        have hi03 : 0 < i := by omega
        have hie4 : ((i : Int) == ((keysR t.2).length : Int) + 1) = false := by rw [beq_eq_false_iff_ne]; exact hie2
        cases hto : (to == [])
        case' true =>
          go_wp2_with fail
          go_quiet (fail)
          go_wp2_with fail
        case' false =>
          have hkl : i - 1 < (keysR t.2).length := by omega
          obtain ⟨k, hk⟩ : ∃ k, (keysR t.2)[i - 1]? = some k := ⟨_, List.getElem?_eq_getElem hkl⟩
          obtain ⟨bk, ok, hqk, hck⟩ := HJ.out.rk.addr (by omega)
          have hcellk : wr.cell? ⟨bk, ok + (i - 1), none⟩ = some (.string (B k)) := hck (i - 1) _ (tv_get hk)
          have hwi : IntKind.i64.wrap ((i : Int) - 1) = ((i - 1 : Nat) : Int) := by rw [IntWalk.i64_in _ ⟨by omega, by omega⟩]; omega
          have hki : ((i - 1 : Nat) : Int) < ((keysR t.2).length : Int) := by omega
          subst hqk
          have HK2 := hid hk
          clear hk hck
          cases hkt : ltB k to
          case' false =>
            have HFIN := hid (HSTOP.out k (by omega) HK2.out (by simpa using hto) hkt)
            go_wp2_with fail
            go_quiet (fail)
            go_wp2_with fail
            try rw [Exit.jump_ret]
            go_ret2
            exact HFIN.out _
          case' true =>
            go_wp2_with fail
            go_quiet (fail)
            go_wp2_with fail
      all_goals
        refine (HCALL.out _).mono ?_
        rintro e8 w8 ⟨more, us2, es2, G2, rfl, hP, hwk2, hc2, hg2⟩
        have HP := hid hP
        have HWK2 := hid hwk2
        have HC2 := hid hc2
        have HG2 := hid hg2
        clear hP hwk2 hc2 hg2
        cases more
        · have HFIN := hid (HJ.out.stop HPRE.out HAT.out HCC.out HP.out HWK2.out HC2.out HG2.out)
          go_wp2_with fail
          try rw [Exit.jump_ret]
          go_ret2
          exact HFIN.out
        · have HNX := hid (HJ.out.next HPRE.out HCC.out HP.out HWK2.out HC2.out HG2.out)
          go_wp2_with fail
          refine wp_goto ?_
          simp only [Exit.jump, true_and]
          refine HK.out _ _ _ ?_ (pageJ_mk rfl rfl rfl rfl rfl (by first | rfl | (congr 1; omega) | (congr 1)) HNX)
          omega


theorem page_any (W0 g p : Nat) (fr to : Tx) (most : Nat) (Nf : Nat → Option Nd) (dd : Nat) (F : Nat → Prop) (n : Nat) (s : DS) (S T : AS) (op : Bool) (N : Nat) (hVw : Vw T Nf) (hF : ∀ k, F k → k < W0) :
    ∀ (d : Nat) (w : World) (G : Nat → Prop) (vs : List Nat) (es : List En) (t : Tr d), PagePre W0 w G g p fr to most vs es d t Nf → PgV w p dd F n s S T op N →
      Calls Try.prog 50 #[.pointer (some ⟨g, 0, none⟩), .int .i64 (atT d t : Int)] w (PageTo W0 w G g p fr to most vs es d t) := by
  intro d
  induction d with
  | zero => intro w G vs es t h1 h2; exact page_leaf W0 g p fr to most Nf dd F n s S T op N hVw hF w G vs es t h1 h2
  | succ d ih => intro w G vs es t h1 h2; exact page_inner d W0 g p fr to most Nf dd F n s S T op N hVw hF (fun w G vs es t h1 h2 => ih w G vs es t h1 h2) w G vs es t h1 h2
end Go.Proofs.Ytdilkgcoecipjaa
