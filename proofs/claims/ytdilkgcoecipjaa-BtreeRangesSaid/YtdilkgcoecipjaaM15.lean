/- triadref5.Map: at. btree.Range. rows. triadref5.Map: Set. triadref5.Map: Range. Arguments that came in: slices of texts. -/
import Derived.Test.YtdilkgcoecipjaaM14
import Derived.Test.YtdilkgcoecipjaaM8
import Derived.OwnWalk
import Derived.Test.YtdilkgcoecipjaaM6
import Derived.SliceStrings
import Derived.Test.YtdilkgcoecipjaaM2
namespace Go.Proofs.Ytdilkgcoecipjaa
open Go.RowKit Go.Maps
set_option linter.unusedVariables false

abbrev TM : TypeId := 36
structure MpW (w : World) (gm B0 : Nat) (G : Nat → Prop) (es : List En) (pk : Option Addr) (ck : Nat) (pv : Option Addr) (cv : Nat) : Prop where
  blk : Blk w gm [.slice pk es.length ck, .slice pv es.length cv] TM
  keys : w.ownsRow B0 TSt 1 (.slice pk es.length ck) es.length (tv (es.map (·.1)))
  vals : w.ownsRow B0 TSt 1 (.slice pv es.length cv) es.length (tv (es.map (·.2)))
  ne : NeB (.slice pk es.length ck) (.slice pv es.length cv)
  inG : G gm ∧ (∀ k, Value.ownBlock (.slice pk es.length ck) = some k → G k) ∧ (∀ k, Value.ownBlock (.slice pv es.length cv) = some k → G k)
  bd : ∀ k, G k → B0 ≤ k ∧ k < w.heap.size
/-- the document's map in memory -/
def Mp (w : World) (gm : Nat) (G : Nat → Prop) (es : List En) : Prop := ∃ B0 pk ck pv cv, MpW w gm B0 G es pk ck pv cv
theorem MpW.chg {w w' : World} {gm B0 : Nat} {G fp : Nat → Prop} {es : List En} {pk : Option Addr} {ck : Nat} {pv : Option Addr} {cv : Nat} (h : MpW w gm B0 G es pk ck pv cv) (hc : Chg fp w w') (hn : ∀ k, G k → ¬ fp k) : MpW w' gm B0 G es pk ck pv cv :=
  ⟨h.blk.chg hc (hn _ h.inG.1), own_chg h.keys hc (fun k hk => hn k (h.inG.2.1 k hk)), own_chg h.vals hc (fun k hk => hn k (h.inG.2.2 k hk)), h.ne, h.inG, fun k hk => ⟨(h.bd k hk).1, Nat.lt_of_lt_of_le (h.bd k hk).2 hc.size⟩⟩
theorem Mp.chg {w w' : World} {gm : Nat} {G fp : Nat → Prop} {es : List En} (h : Mp w gm G es) (hc : Chg fp w w') (hn : ∀ k, G k → ¬ fp k) : Mp w' gm G es := by
  obtain ⟨B0, pk, ck, pv, cv, h⟩ := h
  exact ⟨B0, pk, ck, pv, cv, h.chg hc hn⟩
theorem Mp.new {w w' : World} {gm : Nat} {G : Nat → Prop} {es : List En} (h : Mp w gm G es) (hb : Below w.heap.size w w') : Mp w' gm G es :=
  h.chg (Chg.new hb NoFp) (fun _ _ h => h)
theorem Mp.lt {w : World} {gm : Nat} {G : Nat → Prop} {es : List En} (h : Mp w gm G es) : ∀ k, G k → k < w.heap.size := by
  obtain ⟨B0, pk, ck, pv, cv, h⟩ := h
  exact fun k hk => (h.bd k hk).2
theorem mp_cells {w : World} {g : Nat} {x0 x1 : Value} {T : TypeId} (h : Blk w g [x0, x1] T) : w.cell? ⟨g, 0, none⟩ = some x0 ∧ w.cell? ⟨g, 1, none⟩ = some x1 ∧ w.frozen? ⟨g, 0, none⟩ = false ∧ w.frozen? ⟨g, 1, none⟩ = false :=
  ⟨h.cell 0, h.cell 1, h.frozen 0, h.frozen 1⟩
theorem own_text {w : World} {B0 : Nat} {p : Option Addr} {n c i : Nat} {l : List Tx} (h : w.ownsRow B0 TSt 1 (.slice p n c) n (tv l)) (hl : l.length = n) (hi : i < n) {t : Tx} (ht : l[i]? = some t) : ∃ g, p = some ⟨g, 0, none⟩ ∧ w.cell? ⟨g, i, none⟩ = some (.string (B t)) := by
  obtain ⟨g, v, rfl, hc, _⟩ := own_at h hi
  obtain ⟨b, o, hp, hr⟩ := (Rd.of_own h).addr (by omega)
  cases hp
  have := hr i _ (tv_get ht)
  rw [Nat.zero_add] at this
  exact ⟨g, rfl, this⟩

set_option maxRecDepth 100000 in
set_option maxHeartbeats 4000000 in
theorem mat_any (w : World) (gm : Nat) (G : Nat → Prop) (es : List En) (key : Tx) (h : Mp w gm G es) (hn : es.length ≤ 100000) :
    Calls Try.prog 30 #[.pointer (some ⟨gm, 0, none⟩), .string (B key)] w fun e w' => e = .returned (.tuple #[.int .i64 (rk (es.map (·.1)) key : Int), .bool (isAt (es.map (·.1)) key)]) ∧ Below w.heap.size w w' := by
  obtain ⟨B0, pk, ck, pv, cv, h⟩ := h
  obtain ⟨n, hnn⟩ : ∃ n, es.length = n := ⟨_, rfl⟩
  obtain ⟨ks, hks⟩ : ∃ ks, es.map (·.1) = ks := ⟨_, rfl⟩
  have hblk := h.blk
  have hkeys := h.keys
  rw [hks] at hkeys ⊢
  rw [hnn] at hblk hkeys hn
  have hkl : ks.length = n := by rw [← hks, List.length_map, hnn]
  obtain ⟨x0, x1, f0, f1⟩ := mp_cells hblk
  obtain ⟨r, hr⟩ : ∃ r, rk ks key = r := ⟨_, rfl⟩
  have hrn : r ≤ n := by rw [← hr, ← hkl]; exact rk_le ks key
  have HR := hid hr
  have HK := hid hkeys
  have HKL := hid hkl
  rw [hr]
  clear h hblk hkeys hnn hks hkl hr
  go_enter Try.func30, Try.ntmps30
  go_wp2_with fail
  go_loopw [6] (fun v6 wr => ∃ i : Nat, v6 = .int .i64 (i : Int) ∧ i ≤ r ∧ wr = w) (fun v6 _ => n - (intOf v6).toNat)
  case atStart => exact ⟨0, rfl, Nat.zero_le _, rfl⟩
  case round =>
    obtain ⟨i, rfl, hi, rfl⟩ := hrel
    by_cases hlt : i < n
    · have hlt2 : (i : Int) < (n : Int) := by omega
      obtain ⟨k, hk⟩ : ∃ k, ks[i]? = some k := ⟨_, List.getElem?_eq_getElem (by rw [HKL.out]; exact hlt)⟩
      obtain ⟨gk, rfl, hck⟩ := own_text HK.out HKL.out hlt hk
      have HKk := hid hk
      clear hk
      cases hkk : ltB k key
      · have hri : i = r := by
          rcases Nat.lt_or_ge i r with h1 | h1
          · have := rk_lt ks key i (by rw [HKL.out]; exact hlt) (by rw [HR.out]; exact h1)
            have h2 := (List.getElem?_eq_some_iff.1 HKk.out).2
            rw [h2, hkk] at this; cases this
          · omega
        have HRI := hid hri
        have HIA := hid (show isAt ks key = (k == key) from by
          unfold isAt
          rw [HR.out, ← hri, HKk.out]
          rfl)
        clear hri
        cases hke : (k == key)
        · have hke2 : ¬ k = key := by simpa using hke
          go_wp2_with fail
          go_quiet (fail)
          go_wp2_with fail
          go_ret2
          exact ⟨by rw [HIA.out, hke]; first | rfl | (rw [HRI.out]; rfl), below_drewN (Below.refl _ _) nq⟩
        · have hke2 : k = key := by simpa using hke
          have HKE := hid hke2
          clear hke2
          go_wp2_with fail
          go_quiet (fail)
          go_wp2_with fail
          go_ret2
          exact ⟨by rw [HIA.out, hke]; first | rfl | (rw [HRI.out]; rfl), below_drewN (Below.refl _ _) nq⟩
      · go_wp2_with fail
        go_roundw
        case rel =>
          refine ⟨i + 1, by first | rfl | (congr 1), ?_, by first | rfl | trivial⟩
          rcases Nat.lt_or_ge i r with h1 | h1
          · exact h1
          · have h3 : i = r := by omega
            have := rk_at ks key (by rw [HR.out, HKL.out]; omega)
            have h2 := (List.getElem?_eq_some_iff.1 HKk.out).2
            simp only [HR.out, ← h3] at this
            rw [h2, hkk] at this; cases this
        case measure => simp [intOf]; omega
    · have hlt2 : ¬ (i : Int) < (n : Int) := by omega
      have HRI := hid (show i = r by omega)
      have HIA := hid (show isAt ks key = false from by
        unfold isAt
        rw [HR.out, List.getElem?_eq_none (by rw [HKL.out]; omega)]
        rfl)
      go_wp2_with fail
      go_quiet (fail)
      go_wp2_with fail
      go_ret2
      exact ⟨by rw [HIA.out]; first | rfl | (rw [HRI.out]; rfl), below_drewN (Below.refl _ _) nq⟩

set_option maxRecDepth 100000 in
set_option maxHeartbeats 4000000 in
/-- a range of a tree -/
theorem brange_any (w : World) (p dd : Nat) (F : Nat → Prop) (n : Nat) (s : DS) (S T : AS) (op : Bool) (N : Nat) (Nf : Nat → Option Nd) (d : Nat) (t : Tr d) (at_ : Nat) (hat : atT d t = at_) (fr to : Tx) (most : Nat) (hVw : Vw T Nf) (hpg : PgV w p dd F n s S T op N) (ht : TrOk d t Nf) (hm : most ≤ 4611686018427387904) :
    Calls Try.prog 13 #[.pointer (some ⟨p, 0, none⟩), .int .i64 (at_ : Int), .string (B fr), .string (B to), .int .i64 (most : Int)] w fun e w' => ∃ (pk : Option Addr) (ck : Nat) (pv : Option Addr) (cv : Nat) (es : List En), es = (rngM (ents (toks d t)) fr to).take most ∧
      e = .returned (.tuple #[.slice pk es.length ck, .slice pv es.length cv, .int .i64 0]) ∧ w'.ownsRow w.heap.size TSt 1 (.slice pk es.length ck) es.length (tv (es.map (·.1))) ∧ w'.ownsRow w.heap.size TSt 1 (.slice pv es.length cv) es.length (tv (es.map (·.2))) ∧ Below w.heap.size w w' := by
  have HW := hid (walk_any w p dd F n s S T op N Nf d t fr to most hVw hpg ht hm)
  rw [hat] at HW
  have hfew := ht.few
  have hm0 : ¬ (most : Int) < 0 := by omega
  clear hVw hpg ht hat
  go_enter Try.func13, Try.ntmps13
  go_wp2_with fail
  refine HW.out.mono ?_
  rintro e1 w1 ⟨g, G, us, es, more, rfl, hP, hwk, hb⟩
  obtain ⟨mp, pp, cp, pk, ck, pv, cv, D, hw⟩ := hwk
  have HES := hid (show es = (rngM (ents (toks d t)) fr to).take most from by have h1 := hP.1.1; rw [List.nil_append] at h1; exact h1)
  have hle : es.length ≤ 1000 := by rw [HES.out, List.length_take]; have := rng_le (ents (toks d t)) fr to; omega
  obtain ⟨m, hm⟩ : ∃ m, es.length = m := ⟨_, rfl⟩
  have HM := hid hm
  have HBK := hid hw.blk
  have HKK := hid hw.keys
  have HVV := hid hw.vals
  rw [hm] at HBK HKK HVV hle
  have HB := hid hb
  have hgs := hb.size
  clear hw hP hb hm
  go_wp2_with fail
  obtain ⟨zz, hzz⟩ : ∃ x, w1.drew = x := ⟨_, rfl⟩
  have hbz : Below w1.heap.size w1 zz := by rw [← hzz]; exact below_drewN (Below.refl _ _) 1
  have HBz := hid (HBK.out.chg (Chg.new hbz NoFp) (fun h => h))
  have HKz := hid (own_new HKK.out hbz)
  have HVz := hid (own_new HVV.out hbz)
  have HBB := hid (HB.out.trans (hbz.mono hgs))
  have hsz := hbz.size
  clear hbz HBK HKK HVV HB
  refine wp_region_plan3 (fun w' => Blk w' g (wkC p fr to most mp pp us.length cp pk m ck pv m cv) TW) (fun j => !([4, 9].contains j)) (fun j => [3, 8].contains j) (fun _ => false)
    (.cons 0 (.cons 1 (.cons 2 (.cons 3 (.cons 5 (.cons 6 (.cons 7 (.cons 8 (.cons 4 (.cons 9 (.cons 10 (.cons 11 (.cons 12 .nil))))))))))))) (by kernel_rfl) (by kernel_rfl) rfl (by kernel_rfl) (by kernel_rfl) (by rw [hzz]; exact HBz.out) ?_
  iterate 8 (apply wpPlan3_val; (case ho => rfl); (case hst => rfl); (case hw => rfl); (case hv => intro w' hS; (try (have hS := hS rfl; obtain ⟨y0, y1, y2, y3, y4, y5, y6, y7, _, _⟩ := wk_cells hS)); go_simp; first | done | rfl); intro K hK; go_simp; refine hK _ ?_; clear hK K)
  rw [hzz]
  clear hzz
  refine wpPlan3_list rfl rfl rfl (fun K hK => ?_)
  refine wpList_step (fun K2 hK2 => ?_)
  go_simp
  refine (clone_str _ _ _ _ zz (Rd.of_own HKz.out) (tv_one _) (by omega)).mono ?_
  rintro e2 w2 ⟨p2, c2, rfl, ho2, hb2⟩
  go_simp
  refine hK2 _ _ ?_
  clear hK2 K2
  simp only [wpList]
  have HO2 := hid (own_base (B0 := w.heap.size) ho2 (by omega))
  have HB2 := hid (HBz.out.chg (Chg.new hb2 NoFp) (fun h => h))
  have HV2 := hid (own_new HVz.out hb2)
  have HBB2 := hid (HBB.out.trans (hb2.mono (by omega)))
  have hs2 := hb2.size
  clear ho2 hb2
  refine hK _ _ (fun _ => HB2.out) ?_
  clear hK K
  refine wpPlan3_list rfl rfl rfl (fun K hK => ?_)
  refine wpList_step (fun K2 hK2 => ?_)
  go_simp
  refine (clone_str _ _ _ _ w2 (Rd.of_own HV2.out) (tv_one _) (by omega)).mono ?_
  rintro e3 w3 ⟨p3, c3, rfl, ho3, hb3⟩
  go_simp
  refine hK2 _ _ ?_
  clear hK2 K2
  simp only [wpList]
  have HO3 := hid (own_base (B0 := w.heap.size) ho3 (by omega))
  have HO23 := hid (own_new HO2.out hb3)
  have HB3 := hid (HB2.out.chg (Chg.new hb3 NoFp) (fun h => h))
  have HBB3 := hid (HBB2.out.trans (hb3.mono (by omega)))
  clear ho3 hb3
  refine hK _ _ (fun _ => HB3.out) ?_
  clear hK K
  iterate 3 (apply wpPlan3_val; (case ho => rfl); (case hst => rfl); (case hw => rfl); (case hv => intro w' hS; go_simp; first | done | rfl); intro K hK; go_simp; refine hK _ ?_; clear hK K)
  refine wpPlan3_nil ?_
  simp only [Qn]
  go_wp2_with fail
  go_ret3
  exact ⟨p2, c2, p3, c3, es, HES.out, by rw [HM.out]; rfl, by rw [HM.out]; exact HO23.out, by rw [HM.out]; exact HO3.out, HBB3.out⟩
theorem brange_arg (w : World) (pv rv fv tv_ : Value) (most : Int) (hm : most < 0) :
    Calls Try.prog 13 #[pv, rv, fv, tv_, .int .i64 most] w fun e w' => e = .returned (.tuple #[.slice none 0 0, .slice none 0 0, .int .i64 1]) ∧ w' = w := by
  go_enter Try.func13, Try.ntmps13
  go_wp2_with fail
  go_ret3
  exact ⟨rfl, rfl⟩

set_option maxRecDepth 100000 in
set_option maxHeartbeats 4000000 in
/-- the same rows -/
theorem rows_any (w : World) (p1 : Option Addr) (c1 : Nat) (p2 : Option Addr) (c2 n : Nat) (l : List Tx) (h1 : Rd w 1 (.slice p1 n c1) n (tv l)) (h2 : Rd w 1 (.slice p2 n c2) n (tv l)) (hl : l.length = n) (hn : n ≤ 100000) :
    Calls Try.prog 15 #[.slice p1 n c1, .slice p2 n c2] w fun e w' => e = .returned (.bool true) ∧ Below w.heap.size w w' := by
  have H1 := hid h1
  have H2 := hid h2
  have HL := hid hl
  clear h1 h2 hl
  go_enter Try.func15, Try.ntmps15
  go_wp2_with fail
  go_loopw [5] (fun v5 wr => ∃ i : Nat, v5 = .int .i64 (i : Int) ∧ i ≤ n ∧ Hid (Below w.heap.size w wr)) (fun v5 _ => n - (intOf v5).toNat)
  case atStart => exact ⟨0, rfl, Nat.zero_le _, hid (Below.refl _ _)⟩
  case round =>
    obtain ⟨i, rfl, hi, HB⟩ := hrel
    by_cases hlt : i < n
    · have hlt2 : (i : Int) < (n : Int) := by omega
      obtain ⟨t, ht⟩ : ∃ t, l[i]? = some t := ⟨_, List.getElem?_eq_getElem (by rw [HL.out]; exact hlt)⟩
      obtain ⟨b1, o1, rfl, hr1⟩ := H1.out.addr (by omega)
      obtain ⟨b2, o2, rfl, hr2⟩ := H2.out.addr (by omega)
      have e1 := hr1 i _ (tv_get ht)
      have e2 := hr2 i _ (tv_get ht)
      have c1x : wr.cell? ⟨b1, o1 + i, none⟩ = some (.string (B t)) := (HB.out.cell (p := ⟨b1, o1 + i, none⟩) (World.block_lt_of_cell? _ _ e1)).trans e1
      have c2x : wr.cell? ⟨b2, o2 + i, none⟩ = some (.string (B t)) := (HB.out.cell (p := ⟨b2, o2 + i, none⟩) (World.block_lt_of_cell? _ _ e2)).trans e2
      clear e1 e2 hr1 hr2 ht
      go_wp2_with fail
      go_quiet (fail)
      go_wp2_with fail
      go_roundw
      case rel => exact ⟨i + 1, by first | rfl | (congr 1), hlt, hid (below_drewN HB.out nq)⟩
      case measure => simp [intOf]; omega
    · have hlt2 : ¬ (i : Int) < (n : Int) := by omega
      go_wp2_with fail
      go_ret
      exact ⟨rfl, HB.out⟩
end Go.Proofs.Ytdilkgcoecipjaa

namespace Go.Proofs.Ytdilkgcoecipjaa
open Go.RowKit Go.Maps
set_option linter.unusedVariables false

/-- what a change of the map hands back -/
def MpTo (w : World) (gm : Nat) (G : Nat → Prop) (es : List En) (w' : World) : Prop := ∃ G' : Nat → Prop, Mp w' gm G' es ∧ Chg G w w' ∧ ∀ k, G' k → G k ∨ w.heap.size ≤ k
theorem setM_parts {es : List En} (hs : Srt es) {key val : Tx} (hc : isAt (es.map (·.1)) key = false) :
    (setM es key val).length = es.length + 1 ∧ (setM es key val).map (·.1) = (es.map (·.1)).take (rk (es.map (·.1)) key) ++ [key] ++ (es.map (·.1)).drop (rk (es.map (·.1)) key) ∧ (setM es key val).map (·.2) = (es.map (·.2)).take (rk (es.map (·.1)) key) ++ [val] ++ (es.map (·.2)).drop (rk (es.map (·.1)) key) := by
  have hle := rk_le (es.map (·.1)) key
  rw [List.length_map] at hle
  rw [setM_not hs hc]
  refine ⟨by simp; omega, by simp [List.map_take, List.map_drop], by simp [List.map_take, List.map_drop]⟩
theorem setM_same {es : List En} (hs : Srt es) {key val : Tx} (hc : isAt (es.map (·.1)) key = true) :
    (setM es key val).length = es.length ∧ (setM es key val).map (·.1) = es.map (·.1) ∧ (setM es key val).map (·.2) = (es.map (·.2)).set (rk (es.map (·.1)) key) val := by
  have h := lfN_is (val := val) hs hc
  have h1 := congrArg Nd.keys h
  have h2 := congrArg Nd.vals h
  have h1 : (setM es key val).map (·.1) = es.map (·.1) := h1
  have h2 : (setM es key val).map (·.2) = (es.map (·.2)).set (rk (es.map (·.1)) key) val := h2
  refine ⟨?_, h1, h2⟩
  have := congrArg List.length h1
  simpa using this

theorem MpW.bb {w : World} {gm B0 n : Nat} {G : Nat → Prop} {es : List En} {pk : Option Addr} {ck : Nat} {pv : Option Addr} {cv : Nat} (h : MpW w gm B0 G es pk ck pv cv) (hn : es.length = n) : Blk w gm [.slice pk n ck, .slice pv n cv] TM := by rw [← hn]; exact h.blk
theorem MpW.kk {w : World} {gm B0 n : Nat} {G : Nat → Prop} {es : List En} {ks : List Tx} {pk : Option Addr} {ck : Nat} {pv : Option Addr} {cv : Nat} (h : MpW w gm B0 G es pk ck pv cv) (hn : es.length = n) (hk : es.map (·.1) = ks) : Rd w 1 (.slice pk n ck) n (tv ks) := by rw [← hn, ← hk]; exact Rd.of_own h.keys
theorem MpW.vv {w : World} {gm B0 n : Nat} {G : Nat → Prop} {es : List En} {ks : List Tx} {pk : Option Addr} {ck : Nat} {pv : Option Addr} {cv : Nat} (h : MpW w gm B0 G es pk ck pv cv) (hn : es.length = n) (hk : es.map (·.2) = ks) : Rd w 1 (.slice pv n cv) n (tv ks) := by rw [← hn, ← hk]; exact Rd.of_own h.vals

set_option maxRecDepth 100000 in
set_option maxHeartbeats 8000000 in
theorem mset_any (w : World) (gm : Nat) (G : Nat → Prop) (es : List En) (key val : Tx) (h : Mp w gm G es) (hs : Srt es) (hn : es.length ≤ 10000) (hk1 : key.length ≤ 140) (hk2 : key.length + val.length ≤ 150) :
    Calls Try.prog 12 #[.pointer (some ⟨gm, 0, none⟩), .string (B key), .string (B val)] w fun e w' => e = .returned (.int .i64 0) ∧ MpTo w gm G (setM es key val) w' := by
  have HAT := hid (mat_any w gm G es key h (by omega))
  obtain ⟨ks, hks⟩ : ∃ ks, es.map (·.1) = ks := ⟨_, rfl⟩
  obtain ⟨vs, hvs⟩ : ∃ vs, es.map (·.2) = vs := ⟨_, rfl⟩
  obtain ⟨n, hnn⟩ : ∃ n, es.length = n := ⟨_, rfl⟩
  obtain ⟨r, hr⟩ : ∃ r, rk (es.map (·.1)) key = r := ⟨_, rfl⟩
  have hrn : r ≤ n := by rw [← hr, ← hnn]; have := rk_le (es.map (·.1)) key; rw [List.length_map] at this; exact this
  have hkl : ks.length = n := by rw [← hks, List.length_map, hnn]
  have hvl : vs.length = n := by rw [← hvs, List.length_map, hnn]
  obtain ⟨b, hb⟩ : ∃ b, isAt (es.map (·.1)) key = b := ⟨_, rfl⟩
  rw [hr, hb] at HAT
  have hgl : gm < w.heap.size := by obtain ⟨_, _, _, _, _, h2⟩ := h; exact (h2.bd _ h2.inG.1).2
  have HMP := hid h
  have HNN := hid hnn
  have HKS := hid hks
  have HVS := hid hvs
  have HKL := hid hkl
  have HVL := hid hvl
  have HSRT := hid hs
  have HR := hid hr
  have HB := hid hb
  rw [hnn] at hn
  have h3 : ¬ (140 : Int) < (key.length : Int) := by omega
  have h4 : ¬ (150 : Int) < (key.length : Int) + (val.length : Int) := by omega
  clear h hs hnn hks hvs hkl hvl hr hb
  go_enter Try.func12, Try.ntmps12
  go_wp2_with fail
  refine HAT.out.mono ?_
  rintro e1 w1 ⟨rfl, hb1⟩
  have hz1 := hb1.size
  obtain ⟨B0, pk, ck, pv, cv, hm⟩ := HMP.out.new hb1
  have HBW : Hid (Chg G w w1) := hid (Chg.new hb1 G)
  have hbdl : B0 ≤ gm := (hm.bd gm hm.inG.1).1
  have HW := hid hm
  have hblk := hm.blk
  have hkk := hm.keys
  have hvv := hm.vals
  have hne := hm.ne
  rw [HNN.out] at hblk hkk hvv hne
  rw [HKS.out] at hkk
  rw [HVS.out] at hvv
  have HBK := hid hblk
  have HKK := hid hkk
  have HVV := hid hvv
  have HNE := hid hne
  clear hm hb1 hblk hkk hvv hne
  obtain ⟨x0, x1, f0, f1⟩ := mp_cells HBK.out
  cases b with
  | true =>
    have hrl : r < n := by
      have := isAt_lt HB.out
      rw [List.length_map, HR.out, HNN.out] at this
      exact this
    have hrl2 : (r : Int) < (n : Int) := by omega
    obtain ⟨gv, v0, rfl, hcv, hfv⟩ := own_at HVV.out hrl
    go_wp2_with fail
    obtain ⟨w2, hw2⟩ : ∃ x, w1.setCell ⟨gv, r, none⟩ (.string (B val)) = x := ⟨_, rfl⟩
    have hc2 : Chg (fun k => k = gv) w1 w2 := by rw [← hw2]; exact Chg.setCell (fp := fun k => k = gv) _ rfl _
    have hv2 : w2.ownsRow B0 TSt 1 (.slice (some ⟨gv, 0, none⟩) n cv) n (tv (vs.set r val)) := by rw [← hw2, ← tv_set]; exact own_set_ HVV.out hrl _
    have hgv : G gv := by have := HW.out.inG.2.2 gv (by rfl); exact this
    have hgm : gm ≠ gv := fun h => own_blk_ne HVV.out HBK.out (by decide) (by rw [h]; rfl)
    have hk2' := own_chg HKK.out hc2 (fun k hk h => HNE.out k hk (by rw [h]; rfl))
    have hb2' := HBK.out.chg hc2 hgm
    rw [hw2]
    go_ret
    have hp := setM_same (val := val) HSRT.out HB.out
    rw [HNN.out, HKS.out, HVS.out] at hp
    rw [← HKS.out, HR.out] at hp
    refine ⟨rfl, G, ⟨B0, pk, ck, some ⟨gv, 0, none⟩, cv, ?_⟩, HBW.out.trans hc2 (fun k _ h => by rw [h]; exact hgv), fun k h => .inl h⟩
    refine ⟨by rw [hp.1]; exact hb2', by rw [hp.1, hp.2.1, HKS.out]; exact hk2', by rw [hp.1, hp.2.2]; exact hv2, by rw [hp.1]; exact HNE.out, ?_, fun k hk => ⟨(HW.out.bd k hk).1, Nat.lt_of_lt_of_le (HW.out.bd k hk).2 hc2.size⟩⟩
    have h9 := HW.out.inG
    rw [HNN.out] at h9
    rw [hp.1]
    exact h9
  | false =>
    go_wp2_with fail
    have HGL := hid (fun k (hk : G k) => (HW.out.bd k hk).2)
    have HGM := hid HW.out.inG.1
    obtain ⟨wz, hwz⟩ : ∃ x, w1.drew = x := ⟨_, rfl⟩
    have hbz : Below w1.heap.size w1 wz := by rw [← hwz]; exact below_drewN (Below.refl _ _) 1
    have HWz := hid (HW.out.chg (Chg.new hbz NoFp) (fun _ _ h => h))
    have HGz := hid (HBW.out.trans (Chg.new hbz NoFp) (fun _ _ h => h.elim))
    have hzz : w1.heap.size ≤ wz.heap.size := hbz.size
    clear hbz x0 x1 f0 f1 HKK HVV HNE HBK HAT HBW
    refine wp_region_plan3 (fun w' => Blk w' gm [.slice pk n ck, .slice pv n cv] TM) (fun j => !([0, 7, 8, 15].contains j)) (fun j => [4, 12].contains j) (fun _ => false)
      (.cons 1 (.cons 2 (.cons 3 (.cons 4 (.cons 5 (.cons 6 (.cons 9 (.cons 10 (.cons 11 (.cons 12 (.cons 13 (.cons 14 (.fork 0 8 (.fork 7 8 (.cons 8 (.cons 15 (.cons 16 (.cons 17 .nil)))) (.cons 7 (.cons 15 (.cons 16 (.cons 17 .nil))))) (.cons 0 (.cons 7 (.cons 15 (.cons 16 (.cons 17 .nil)))))))))))))))))) (by kernel_rfl) (by kernel_rfl) rfl (by kernel_rfl) (by kernel_rfl) (by rw [hwz]; exact HWz.out.bb HNN.out) ?_
    iterate 5 (apply wpPlan3_val; (case ho => rfl); (case hst => rfl); (case hw => rfl); (case hv => intro w' hS; (try (have hS := hS rfl; obtain ⟨x0, x1, _, _⟩ := mp_cells hS)); go_simp; first | done | rfl); intro K hK; go_simp; refine hK _ ?_; clear hK K)
    refine wpPlan3_slice rfl rfl rfl _ _ _ _ rfl TSt 1 Try.underlying33 (by kernel_rfl) _ _ _ rfl (HWz.out.kk HNN.out HKS.out).caps.1 (HWz.out.kk HNN.out HKS.out).caps.2 0 r r (by omega) rfl ⟨_, (r : Int), rfl, by omega, by omega⟩ (by omega) (by omega) ?_
    intro pka cka hska K hK
    go_simp
    refine hK _ ?_
    clear hK K
    have HSka := hid hska
    clear hska
    iterate 5 (apply wpPlan3_val; (case ho => rfl); (case hst => rfl); (case hw => rfl); (case hv => intro w' hS; (try (have hS := hS rfl; obtain ⟨x0, x1, _, _⟩ := mp_cells hS)); go_simp; first | done | rfl); intro K hK; go_simp; refine hK _ ?_; clear hK K)
    refine wpPlan3_slice rfl rfl rfl _ _ _ _ rfl TSt 1 Try.underlying33 (by kernel_rfl) _ _ _ rfl (HWz.out.vv HNN.out HVS.out).caps.1 (HWz.out.vv HNN.out HVS.out).caps.2 0 r r (by omega) rfl ⟨_, (r : Int), rfl, by omega, by omega⟩ (by omega) (by omega) ?_
    intro pva cva hsva K hK
    go_simp
    refine hK _ ?_
    clear hK K
    have HSva := hid hsva
    clear hsva
    rw [hwz]
    clear hwz
    refine ⟨?_, ?_⟩
    · refine effect_list rfl rfl (fun K hK => ?_)
      refine wpList_step (fun K2 hK2 => ?_)
      go_simp
      refine hK2 _ _ ?_
      clear hK2 K2
      simp only [wpList]
      obtain ⟨b21, hb21⟩ : ∃ b, wz.heap.size = b := ⟨_, rfl⟩
      obtain ⟨w21, hw21⟩ : ∃ x, wz.alloc (.cells #[] TSt) = x := ⟨_, rfl⟩
      have hal21 : Below wz.heap.size wz w21 := by rw [← hw21]; exact (Below.refl _ _).alloc (Nat.le_refl _) _
      have HE21 := hid (show w21.ownsRow w1.heap.size TSt 1 (.slice (some ⟨b21, 0, none⟩) 0 0) 0 [] from by rw [← hw21, ← hb21]; exact own_empty wz TSt 1 _ rfl w1.heap.size hzz)
      rw [hw21, hb21]
      have HW21 := hid (HWz.out.chg (Chg.new hal21 NoFp) (fun _ _ h => h))
      have HG21 := hid (HGz.out.trans (Chg.new hal21 NoFp) (fun _ _ h => h.elim))
      have hz21 : w1.heap.size ≤ w21.heap.size := Nat.le_trans hzz (Chg.new hal21 NoFp).size
      clear hal21 hw21 hb21
      refine hK _ _ (fun _ => HW21.out.bb HNN.out) ?_
      clear hK K
      refine ⟨?_, ?_⟩
      · refine effect_list rfl rfl (fun K hK => ?_)
        refine wpList_append_rd rfl _ _ TSs rfl w1.heap.size TSt _ 1 16 Try.underlying33 infoSt rfl (by decide) _ 0 [] rfl HE21.out _ r _ rfl (HSka.out _ _ (HW21.out.kk HNN.out HKS.out)) (by rw [tv_to]; exact tv_one _) (by simp only [maxLen]; omega) (by omega) hz21 ?_
        intro p22 c22 w22 ho22 hg22 hv22
        rw [Nat.zero_add] at ho22 hv22 ⊢
        rw [tv_to, List.nil_append] at ho22
        have hc22 := Chg.grown hg22
        simp only [wpList]
        have HW22 := hid (HW21.out.chg hc22 (fun k hk h => by have := HGL.out k hk; have := (own_lt HE21.out k h).1; omega))
        have HG22 := hid (HG21.out.trans hc22 (fun k hk h => absurd hk (by have := (own_lt HE21.out k h).1; omega)))
        have hz22 : w1.heap.size ≤ w22.heap.size := Nat.le_trans hz21 hc22.size
        have HE22 := hid ho22
        clear ho22 hg22 hv22 hc22
        refine hK _ _ (fun _ => HW22.out.bb HNN.out) ?_
        clear hK K
        refine wpPlan3_list rfl rfl rfl (fun K hK => ?_)
        refine wpList_step (fun K2 hK2 => ?_)
        go_simp
        refine hK2 _ _ ?_
        clear hK2 K2
        simp only [wpList]
        obtain ⟨b23, hb23⟩ : ∃ b, w22.heap.size = b := ⟨_, rfl⟩
        obtain ⟨w23, hw23⟩ : ∃ x, w22.alloc (.cells #[] TSt) = x := ⟨_, rfl⟩
        have hal23 : Below w22.heap.size w22 w23 := by rw [← hw23]; exact (Below.refl _ _).alloc (Nat.le_refl _) _
        have HE23 := hid (show w23.ownsRow w1.heap.size TSt 1 (.slice (some ⟨b23, 0, none⟩) 0 0) 0 [] from by rw [← hw23, ← hb23]; exact own_empty w22 TSt 1 _ rfl w1.heap.size hz22)
        rw [hw23, hb23]
        have HO23 := hid (own_new HE22.out hal23)
        have HN23 : Hid (NeB (.slice p22 r c22) (.slice (some ⟨b23, 0, none⟩) 0 0)) := hid (fun g h1 h2 => by have := (own_lt HE22.out g h1).2; have h3 : b23 = g := (by simpa [Value.ownBlock] using h2); omega)
        have HW23 := hid (HW22.out.chg (Chg.new hal23 NoFp) (fun _ _ h => h))
        have HG23 := hid (HG22.out.trans (Chg.new hal23 NoFp) (fun _ _ h => h.elim))
        have hz23 : w1.heap.size ≤ w23.heap.size := Nat.le_trans hz22 (Chg.new hal23 NoFp).size
        clear hal23 hw23 hb23
        refine hK _ _ (fun _ => HW23.out.bb HNN.out) ?_
        clear hK K
        refine wpPlan3_list rfl rfl rfl (fun K hK => ?_)
        refine wpList_append_rd rfl _ _ TSs rfl w1.heap.size TSt _ 1 16 Try.underlying33 infoSt rfl (by decide) _ 0 [] rfl HE23.out _ r _ rfl (HSva.out _ _ (HW23.out.vv HNN.out HVS.out)) (by rw [tv_to]; exact tv_one _) (by simp only [maxLen]; omega) (by omega) hz23 ?_
        intro p24 c24 w24 ho24 hg24 hv24
        rw [Nat.zero_add] at ho24 hv24 ⊢
        rw [tv_to, List.nil_append] at ho24
        have hc24 := Chg.grown hg24
        simp only [wpList]
        have HO24 := hid (own_chg HO23.out hc24 (fun g h1 h2 => HN23.out g h1 h2))
        have HN24 := hid (neB_next HN23.out (fun g h1 => (own_lt HO23.out g h1).2) hv24)
        have HW24 := hid (HW23.out.chg hc24 (fun k hk h => by have := HGL.out k hk; have := (own_lt HE23.out k h).1; omega))
        have HG24 := hid (HG23.out.trans hc24 (fun k hk h => absurd hk (by have := (own_lt HE23.out k h).1; omega)))
        have hz24 : w1.heap.size ≤ w24.heap.size := Nat.le_trans hz23 hc24.size
        have HE24 := hid ho24
        clear ho24 hg24 hv24 hc24
        refine hK _ _ (fun _ => HW24.out.bb HNN.out) ?_
        clear hK K
        (apply wpPlan3_val; (case ho => rfl); (case hst => rfl); (case hw => rfl); (case hv => intro w' hS; go_simp; first | done | rfl); intro K hK; go_simp; refine hK _ ?_; clear hK K)
        (apply wpPlan3_val; (case ho => rfl); (case hst => rfl); (case hw => rfl); (case hv => intro w' hS; go_simp; first | done | rfl); intro K hK; go_simp; refine hK _ ?_; clear hK K)
        refine wpPlan3_nil ?_
        simp only [Qn]
        go_wp2_with (at_builtin; refine wp_keep ?_)
        refine hid ?_
        obtain ⟨b25, hb25⟩ : ∃ b, w24.heap.size = b := ⟨_, rfl⟩
        obtain ⟨w25, hw25⟩ : ∃ x, w24.alloc (.cells #[.string (B key)] TSt) = x := ⟨_, rfl⟩
        have hal25 : Below w24.heap.size w24 w25 := by rw [← hw25]; exact (Below.refl _ _).alloc (Nat.le_refl _) _
        have HQ25 := hid (show Rd w25 1 (.slice (some ⟨b25, 0, none⟩) 1 1) 1 [.string (B key)] from by rw [← hw25, ← hb25]; exact Rd.fresh1 _ _ _)
        rw [hw25, hb25]
        have HA25 := hid (own_new HO24.out hal25)
        have HB25 := hid (own_new HE24.out hal25)
        have HW25 := hid (HW24.out.chg (Chg.new hal25 NoFp) (fun _ _ h => h))
        have HG25 := hid (HG24.out.trans (Chg.new hal25 NoFp) (fun _ _ h => h.elim))
        have hz25 : w1.heap.size ≤ w25.heap.size := Nat.le_trans hz24 (Chg.new hal25 NoFp).size
        clear hal25 hw25 hb25
        refine wpList_append_rd rfl _ _ TSs rfl w1.heap.size TSt _ 1 16 Try.underlying33 infoSt rfl (by decide) _ r _ rfl HA25.out _ 1 [.string (B key)] rfl HQ25.out (by simp [Value.oneCell']) (by simp only [maxLen]; omega) (by omega) hz25 ?_
        intro p26 c26 w26 ho26 hg26 hv26
        have hc26 := Chg.grown hg26
        have HO26 := hid (own_chg HB25.out hc26 (fun g h1 h2 => HN24.out.symm g h1 h2))
        have HN26 := hid (neB_next HN24.out.symm (fun g h1 => (own_lt HB25.out g h1).2) hv26)
        have HW26 := hid (HW25.out.chg hc26 (fun k hk h => by have := HGL.out k hk; have := (own_lt HA25.out k h).1; omega))
        have HG26 := hid (HG25.out.trans hc26 (fun k hk h => absurd hk (by have := (own_lt HA25.out k h).1; omega)))
        have hz26 : w1.heap.size ≤ w26.heap.size := Nat.le_trans hz25 hc26.size
        have HE26 := hid ho26
        clear ho26 hg26 hv26 hc26
        go_wp2_with (at_builtin; refine wp_keep ?_)
        refine hid ?_
        obtain ⟨b27, hb27⟩ : ∃ b, w26.heap.size = b := ⟨_, rfl⟩
        obtain ⟨w27, hw27⟩ : ∃ x, w26.alloc (.cells #[.string (B val)] TSt) = x := ⟨_, rfl⟩
        have hal27 : Below w26.heap.size w26 w27 := by rw [← hw27]; exact (Below.refl _ _).alloc (Nat.le_refl _) _
        have HQ27 := hid (show Rd w27 1 (.slice (some ⟨b27, 0, none⟩) 1 1) 1 [.string (B val)] from by rw [← hw27, ← hb27]; exact Rd.fresh1 _ _ _)
        rw [hw27, hb27]
        have HA27 := hid (own_new HO26.out hal27)
        have HB27 := hid (own_new HE26.out hal27)
        have HW27 := hid (HW26.out.chg (Chg.new hal27 NoFp) (fun _ _ h => h))
        have HG27 := hid (HG26.out.trans (Chg.new hal27 NoFp) (fun _ _ h => h.elim))
        have hz27 : w1.heap.size ≤ w27.heap.size := Nat.le_trans hz26 (Chg.new hal27 NoFp).size
        clear hal27 hw27 hb27
        refine wpList_append_rd rfl _ _ TSs rfl w1.heap.size TSt _ 1 16 Try.underlying33 infoSt rfl (by decide) _ r _ rfl HA27.out _ 1 [.string (B val)] rfl HQ27.out (by simp [Value.oneCell']) (by simp only [maxLen]; omega) (by omega) hz27 ?_
        intro p28 c28 w28 ho28 hg28 hv28
        have hc28 := Chg.grown hg28
        have HO28 := hid (own_chg HB27.out hc28 (fun g h1 h2 => HN26.out.symm g h1 h2))
        have HN28 := hid (neB_next HN26.out.symm (fun g h1 => (own_lt HB27.out g h1).2) hv28)
        have HW28 := hid (HW27.out.chg hc28 (fun k hk h => by have := HGL.out k hk; have := (own_lt HA27.out k h).1; omega))
        have HG28 := hid (HG27.out.trans hc28 (fun k hk h => absurd hk (by have := (own_lt HA27.out k h).1; omega)))
        have hz28 : w1.heap.size ≤ w28.heap.size := Nat.le_trans hz27 hc28.size
        have HE28 := hid ho28
        clear ho28 hg28 hv28 hc28
        go_wp2_with fail
        obtain ⟨w29, hw29⟩ : ∃ x, w28.drew = x := ⟨_, rfl⟩
        have hal29 : Below w28.heap.size w28 w29 := by rw [← hw29]; exact below_drewN (Below.refl _ _) 1
        have HA29 := hid (own_new HO28.out hal29)
        have HB29 := hid (own_new HE28.out hal29)
        have HW29 := hid (HW28.out.chg (Chg.new hal29 NoFp) (fun _ _ h => h))
        have HG29 := hid (HG28.out.trans (Chg.new hal29 NoFp) (fun _ _ h => h.elim))
        have hz29 : w1.heap.size ≤ w29.heap.size := Nat.le_trans hz28 (Chg.new hal29 NoFp).size
        refine wp_region_plan3 (fun w' => Blk w' gm [.slice pk n ck, .slice pv n cv] TM) (fun j => !([9, 17, 20, 23].contains j)) (fun j => [6, 14].contains j) (fun j => [20, 23].contains j)
          (.cons 0 (.cons 1 (.cons 2 (.cons 3 (.cons 4 (.cons 5 (.cons 6 (.cons 7 (.cons 8 (.cons 10 (.cons 11 (.cons 12 (.cons 13 (.cons 14 (.cons 15 (.cons 16 (.cons 9 (.cons 17 (.cons 18 (.cons 19 (.cons 20 (.cons 21 (.cons 22 (.cons 23 .nil)))))))))))))))))))))))) (by kernel_rfl) (by kernel_rfl) rfl (by kernel_rfl) (by kernel_rfl) (by rw [hw29]; exact HW29.out.bb HNN.out) ?_
        iterate 8 (apply wpPlan3_val; (case ho => rfl); (case hst => rfl); (case hw => rfl); (case hv => intro w' hS; (try (have hS := hS rfl; obtain ⟨x0, x1, _, _⟩ := mp_cells hS)); go_simp; first | done | rfl); intro K hK; go_simp; refine hK _ ?_; clear hK K)
        refine wpPlan3_slice rfl rfl rfl _ _ _ _ rfl TSt 1 Try.underlying33 (by kernel_rfl) _ _ _ rfl (HW29.out.kk HNN.out HKS.out).caps.1 (HW29.out.kk HNN.out HKS.out).caps.2 r n (n - r) (by omega) ⟨_, (r : Int), rfl, by omega, by omega⟩ rfl (by omega) (by omega) ?_
        intro pkb29 ckb29 hskb29 K hK
        go_simp
        refine hK _ ?_
        clear hK K
        have HSkb29 := hid hskb29
        clear hskb29
        iterate 6 (apply wpPlan3_val; (case ho => rfl); (case hst => rfl); (case hw => rfl); (case hv => intro w' hS; (try (have hS := hS rfl; obtain ⟨x0, x1, _, _⟩ := mp_cells hS)); go_simp; first | done | rfl); intro K hK; go_simp; refine hK _ ?_; clear hK K)
        refine wpPlan3_slice rfl rfl rfl _ _ _ _ rfl TSt 1 Try.underlying33 (by kernel_rfl) _ _ _ rfl (HW29.out.vv HNN.out HVS.out).caps.1 (HW29.out.vv HNN.out HVS.out).caps.2 r n (n - r) (by omega) ⟨_, (r : Int), rfl, by omega, by omega⟩ rfl (by omega) (by omega) ?_
        intro pvb29 cvb29 hsvb29 K hK
        go_simp
        refine hK _ ?_
        clear hK K
        have HSvb29 := hid hsvb29
        clear hsvb29
        rw [hw29]
        clear hw29 hal29
        refine wpPlan3_list rfl rfl rfl (fun K hK => ?_)
        refine wpList_append_rd rfl _ _ TSs rfl w1.heap.size TSt _ 1 16 Try.underlying33 infoSt rfl (by decide) _ (r + 1) _ rfl HA29.out _ (n - r) _ rfl (HSkb29.out _ _ (HW29.out.kk HNN.out HKS.out)) (by rw [tv_from _ (m := n - r) (by rw [HKL.out]; omega)]; exact tv_one _) (by simp only [maxLen]; omega) (by omega) hz29 ?_
        intro p30 c30 w30 ho30 hg30 hv30
        rw [tv_from _ (m := n - r) (by rw [HKL.out]; omega)] at ho30
        have hc30 := Chg.grown hg30
        simp only [wpList]
        have HO30 := hid (own_chg HB29.out hc30 (fun g h1 h2 => HN28.out.symm g h1 h2))
        have HN30 := hid (neB_next HN28.out.symm (fun g h1 => (own_lt HB29.out g h1).2) hv30)
        have HW30 := hid (HW29.out.chg hc30 (fun k hk h => by have := HGL.out k hk; have := (own_lt HA29.out k h).1; omega))
        have HG30 := hid (HG29.out.trans hc30 (fun k hk h => absurd hk (by have := (own_lt HA29.out k h).1; omega)))
        have hz30 : w1.heap.size ≤ w30.heap.size := Nat.le_trans hz29 hc30.size
        have HE30 := hid ho30
        clear ho30 hg30 hv30 hc30
        refine hK _ _ (fun _ => HW30.out.bb HNN.out) ?_
        clear hK K
        refine wpPlan3_list rfl rfl rfl (fun K hK => ?_)
        refine wpList_append_rd rfl _ _ TSs rfl w1.heap.size TSt _ 1 16 Try.underlying33 infoSt rfl (by decide) _ (r + 1) _ rfl HO30.out _ (n - r) _ rfl (HSvb29.out _ _ (HW30.out.vv HNN.out HVS.out)) (by rw [tv_from _ (m := n - r) (by rw [HVL.out]; omega)]; exact tv_one _) (by simp only [maxLen]; omega) (by omega) hz30 ?_
        intro p31 c31 w31 ho31 hg31 hv31
        rw [tv_from _ (m := n - r) (by rw [HVL.out]; omega)] at ho31
        have hc31 := Chg.grown hg31
        simp only [wpList]
        have HO31 := hid (own_chg HE30.out hc31 (fun g h1 h2 => HN30.out.symm g h1 h2))
        have HN31 := hid (neB_next HN30.out.symm (fun g h1 => (own_lt HE30.out g h1).2) hv31)
        have HW31 := hid (HW30.out.chg hc31 (fun k hk h => by have := HGL.out k hk; have := (own_lt HO30.out k h).1; omega))
        have HG31 := hid (HG30.out.trans hc31 (fun k hk h => absurd hk (by have := (own_lt HO30.out k h).1; omega)))
        have hz31 : w1.heap.size ≤ w31.heap.size := Nat.le_trans hz30 hc31.size
        have HE31 := hid ho31
        clear ho31 hg31 hv31 hc31
        refine hK _ _ (fun _ => HW31.out.bb HNN.out) ?_
        clear hK K
        (apply wpPlan3_val; (case ho => rfl); (case hst => rfl); (case hw => rfl); (case hv => intro w' hS; (try (have hS := hS rfl; obtain ⟨x0, x1, _, _⟩ := mp_cells hS)); go_simp; first | done | rfl); intro K hK; go_simp; refine hK _ ?_; clear hK K)
        (apply wpPlan3_val; (case ho => rfl); (case hst => rfl); (case hw => rfl); (case hv => intro w' hS; (try (have hS := hS rfl; obtain ⟨x0, x1, _, _⟩ := mp_cells hS)); go_simp; first | done | rfl); intro K hK; go_simp; refine hK _ ?_; clear hK K)
        obtain ⟨x0, x1, f0, f1⟩ := mp_cells (HW31.out.bb HNN.out)
        refine wpPlan3_list rfl rfl rfl (fun K hK => ?_)
        refine wpList_step (fun K2 hK2 => ?_)
        go_simp
        refine hK2 _ _ ?_
        clear hK2 K2
        simp only [wpList]
        refine hK _ _ (fun h => by cases h) ?_
        clear hK K
        (apply wpPlan3_val; (case ho => rfl); (case hst => rfl); (case hw => rfl); (case hv => intro w' hS; (try (have hS := hS rfl; obtain ⟨x0, x1, _, _⟩ := mp_cells hS)); go_simp; first | done | rfl); intro K hK; go_simp; refine hK _ ?_; clear hK K)
        (apply wpPlan3_val; (case ho => rfl); (case hst => rfl); (case hw => rfl); (case hv => intro w' hS; (try (have hS := hS rfl; obtain ⟨x0, x1, _, _⟩ := mp_cells hS)); go_simp; first | done | rfl); intro K hK; go_simp; refine hK _ ?_; clear hK K)
        refine wpPlan3_list rfl rfl rfl (fun K hK => ?_)
        refine wpList_step (fun K2 hK2 => ?_)
        go_simp
        refine hK2 _ _ ?_
        clear hK2 K2
        simp only [wpList]
        refine hK _ _ (fun h => by cases h) ?_
        clear hK K
        refine wpPlan3_nil ?_
        simp only [Qn]
        obtain ⟨wf, hwf⟩ : ∃ x, (w31.setCell ⟨gm, 0, none⟩ (.slice p30 (r + 1 + (n - r)) c30)).setCell ⟨gm, 1, none⟩ (.slice p31 (r + 1 + (n - r)) c31) = x := ⟨_, rfl⟩
        have hcf : Chg (fun k => k = gm) w31 wf := by rw [← hwf]; exact (Chg.setCell (fp := fun k => k = gm) _ rfl _).trans (Chg.setCell (fp := fun k => k = gm) _ rfl _) (fun _ _ h => h)
        have hbf : Blk wf gm [.slice p30 (r + 1 + (n - r)) c30, .slice p31 (r + 1 + (n - r)) c31] TM := by rw [← hwf]; exact ((HW31.out.bb HNN.out).set 0 _).set 1 _
        rw [hwf]
        have hkf := own_chg HO31.out hcf (fun k hk h => by have := (own_lt HO31.out k hk).1; have := HGL.out gm HGM.out; omega)
        have hvf := own_chg HE31.out hcf (fun k hk h => by have := (own_lt HE31.out k hk).1; have := HGL.out gm HGM.out; omega)
        go_wp2_with fail
        go_ret
        have hp := setM_parts (val := val) HSRT.out HB.out
        rw [HNN.out] at hp
        rw [HR.out, HKS.out, HVS.out] at hp
        have hl9 : r + 1 + (n - r) = n + 1 := by omega
        rw [hl9] at hbf hkf hvf
        have hne9 : NeB (.slice p30 (n + 1) c30) (.slice p31 (n + 1) c31) := by rw [← hl9]; exact HN31.out
        refine ⟨rfl, fun k => G k ∨ (w1.heap.size ≤ k ∧ k < wf.heap.size), ⟨B0, p30, c30, p31, c31, ⟨by rw [hp.1]; exact hbf, ?_, ?_, by rw [hp.1]; exact hne9, ?_, ?_⟩⟩, HG31.out.trans hcf (fun k _ h => by rw [h]; exact HGM.out), fun k h => h.imp id (fun h => by omega)⟩
        · rw [hp.1, hp.2.1]; exact own_base (B0 := B0) (by rw [tv_app, tv_app]; exact hkf) (by have := HGL.out gm HGM.out; omega)
        · rw [hp.1, hp.2.2]; exact own_base (B0 := B0) (by rw [tv_app, tv_app]; exact hvf) (by have := HGL.out gm HGM.out; omega)
        · rw [hp.1]; exact ⟨.inl HGM.out, fun k hk => .inr (own_lt hkf k hk), fun k hk => .inr (own_lt hvf k hk)⟩
        · intro k hk; rcases hk with hk | hk; exact ⟨(HW31.out.bd k hk).1, Nat.lt_of_lt_of_le (HW31.out.bd k hk).2 hcf.size⟩; exact ⟨by have := HGL.out gm HGM.out; omega, hk.2⟩
      · refine effect_list rfl rfl (fun K hK => ?_)
        refine wpList_step (fun K2 hK2 => ?_)
        go_simp
        refine hK2 _ _ ?_
        clear hK2 K2
        simp only [wpList]
        obtain ⟨b32, hb32⟩ : ∃ b, w21.heap.size = b := ⟨_, rfl⟩
        obtain ⟨w32, hw32⟩ : ∃ x, w21.alloc (.cells #[] TSt) = x := ⟨_, rfl⟩
        have hal32 : Below w21.heap.size w21 w32 := by rw [← hw32]; exact (Below.refl _ _).alloc (Nat.le_refl _) _
        have HE32 := hid (show w32.ownsRow w1.heap.size TSt 1 (.slice (some ⟨b32, 0, none⟩) 0 0) 0 [] from by rw [← hw32, ← hb32]; exact own_empty w21 TSt 1 _ rfl w1.heap.size hz21)
        rw [hw32, hb32]
        have HO32 := hid (own_new HE21.out hal32)
        have HN32 : Hid (NeB (.slice (some ⟨b21, 0, none⟩) 0 0) (.slice (some ⟨b32, 0, none⟩) 0 0)) := hid (fun g h1 h2 => by have := (own_lt HE21.out g h1).2; have h3 : b32 = g := (by simpa [Value.ownBlock] using h2); omega)
        have HW32 := hid (HW21.out.chg (Chg.new hal32 NoFp) (fun _ _ h => h))
        have HG32 := hid (HG21.out.trans (Chg.new hal32 NoFp) (fun _ _ h => h.elim))
        have hz32 : w1.heap.size ≤ w32.heap.size := Nat.le_trans hz21 (Chg.new hal32 NoFp).size
        clear hal32 hw32 hb32
        refine hK _ _ (fun _ => HW32.out.bb HNN.out) ?_
        clear hK K
        refine wpPlan3_list rfl rfl rfl (fun K hK => ?_)
        refine wpList_append_rd rfl _ _ TSs rfl w1.heap.size TSt _ 1 16 Try.underlying33 infoSt rfl (by decide) _ 0 [] rfl HO32.out _ r _ rfl (HSka.out _ _ (HW32.out.kk HNN.out HKS.out)) (by rw [tv_to]; exact tv_one _) (by simp only [maxLen]; omega) (by omega) hz32 ?_
        intro p33 c33 w33 ho33 hg33 hv33
        rw [Nat.zero_add] at ho33 hv33 ⊢
        rw [tv_to, List.nil_append] at ho33
        have hc33 := Chg.grown hg33
        simp only [wpList]
        have HO33 := hid (own_chg HE32.out hc33 (fun g h1 h2 => HN32.out.symm g h1 h2))
        have HN33 := hid (neB_next HN32.out.symm (fun g h1 => (own_lt HE32.out g h1).2) hv33)
        have HW33 := hid (HW32.out.chg hc33 (fun k hk h => by have := HGL.out k hk; have := (own_lt HO32.out k h).1; omega))
        have HG33 := hid (HG32.out.trans hc33 (fun k hk h => absurd hk (by have := (own_lt HO32.out k h).1; omega)))
        have hz33 : w1.heap.size ≤ w33.heap.size := Nat.le_trans hz32 hc33.size
        have HE33 := hid ho33
        clear ho33 hg33 hv33 hc33
        refine hK _ _ (fun _ => HW33.out.bb HNN.out) ?_
        clear hK K
        refine wpPlan3_list rfl rfl rfl (fun K hK => ?_)
        refine wpList_append_rd rfl _ _ TSs rfl w1.heap.size TSt _ 1 16 Try.underlying33 infoSt rfl (by decide) _ 0 [] rfl HO33.out _ r _ rfl (HSva.out _ _ (HW33.out.vv HNN.out HVS.out)) (by rw [tv_to]; exact tv_one _) (by simp only [maxLen]; omega) (by omega) hz33 ?_
        intro p34 c34 w34 ho34 hg34 hv34
        rw [Nat.zero_add] at ho34 hv34 ⊢
        rw [tv_to, List.nil_append] at ho34
        have hc34 := Chg.grown hg34
        simp only [wpList]
        have HO34 := hid (own_chg HE33.out hc34 (fun g h1 h2 => HN33.out.symm g h1 h2))
        have HN34 := hid (neB_next HN33.out.symm (fun g h1 => (own_lt HE33.out g h1).2) hv34)
        have HW34 := hid (HW33.out.chg hc34 (fun k hk h => by have := HGL.out k hk; have := (own_lt HO33.out k h).1; omega))
        have HG34 := hid (HG33.out.trans hc34 (fun k hk h => absurd hk (by have := (own_lt HO33.out k h).1; omega)))
        have hz34 : w1.heap.size ≤ w34.heap.size := Nat.le_trans hz33 hc34.size
        have HE34 := hid ho34
        clear ho34 hg34 hv34 hc34
        refine hK _ _ (fun _ => HW34.out.bb HNN.out) ?_
        clear hK K
        (apply wpPlan3_val; (case ho => rfl); (case hst => rfl); (case hw => rfl); (case hv => intro w' hS; go_simp; first | done | rfl); intro K hK; go_simp; refine hK _ ?_; clear hK K)
        (apply wpPlan3_val; (case ho => rfl); (case hst => rfl); (case hw => rfl); (case hv => intro w' hS; go_simp; first | done | rfl); intro K hK; go_simp; refine hK _ ?_; clear hK K)
        refine wpPlan3_nil ?_
        simp only [Qn]
        go_wp2_with (at_builtin; refine wp_keep ?_)
        refine hid ?_
        obtain ⟨b35, hb35⟩ : ∃ b, w34.heap.size = b := ⟨_, rfl⟩
        obtain ⟨w35, hw35⟩ : ∃ x, w34.alloc (.cells #[.string (B key)] TSt) = x := ⟨_, rfl⟩
        have hal35 : Below w34.heap.size w34 w35 := by rw [← hw35]; exact (Below.refl _ _).alloc (Nat.le_refl _) _
        have HQ35 := hid (show Rd w35 1 (.slice (some ⟨b35, 0, none⟩) 1 1) 1 [.string (B key)] from by rw [← hw35, ← hb35]; exact Rd.fresh1 _ _ _)
        rw [hw35, hb35]
        have HA35 := hid (own_new HO34.out hal35)
        have HB35 := hid (own_new HE34.out hal35)
        have HW35 := hid (HW34.out.chg (Chg.new hal35 NoFp) (fun _ _ h => h))
        have HG35 := hid (HG34.out.trans (Chg.new hal35 NoFp) (fun _ _ h => h.elim))
        have hz35 : w1.heap.size ≤ w35.heap.size := Nat.le_trans hz34 (Chg.new hal35 NoFp).size
        clear hal35 hw35 hb35
        refine wpList_append_rd rfl _ _ TSs rfl w1.heap.size TSt _ 1 16 Try.underlying33 infoSt rfl (by decide) _ r _ rfl HA35.out _ 1 [.string (B key)] rfl HQ35.out (by simp [Value.oneCell']) (by simp only [maxLen]; omega) (by omega) hz35 ?_
        intro p36 c36 w36 ho36 hg36 hv36
        have hc36 := Chg.grown hg36
        have HO36 := hid (own_chg HB35.out hc36 (fun g h1 h2 => HN34.out.symm g h1 h2))
        have HN36 := hid (neB_next HN34.out.symm (fun g h1 => (own_lt HB35.out g h1).2) hv36)
        have HW36 := hid (HW35.out.chg hc36 (fun k hk h => by have := HGL.out k hk; have := (own_lt HA35.out k h).1; omega))
        have HG36 := hid (HG35.out.trans hc36 (fun k hk h => absurd hk (by have := (own_lt HA35.out k h).1; omega)))
        have hz36 : w1.heap.size ≤ w36.heap.size := Nat.le_trans hz35 hc36.size
        have HE36 := hid ho36
        clear ho36 hg36 hv36 hc36
        go_wp2_with (at_builtin; refine wp_keep ?_)
        refine hid ?_
        obtain ⟨b37, hb37⟩ : ∃ b, w36.heap.size = b := ⟨_, rfl⟩
        obtain ⟨w37, hw37⟩ : ∃ x, w36.alloc (.cells #[.string (B val)] TSt) = x := ⟨_, rfl⟩
        have hal37 : Below w36.heap.size w36 w37 := by rw [← hw37]; exact (Below.refl _ _).alloc (Nat.le_refl _) _
        have HQ37 := hid (show Rd w37 1 (.slice (some ⟨b37, 0, none⟩) 1 1) 1 [.string (B val)] from by rw [← hw37, ← hb37]; exact Rd.fresh1 _ _ _)
        rw [hw37, hb37]
        have HA37 := hid (own_new HO36.out hal37)
        have HB37 := hid (own_new HE36.out hal37)
        have HW37 := hid (HW36.out.chg (Chg.new hal37 NoFp) (fun _ _ h => h))
        have HG37 := hid (HG36.out.trans (Chg.new hal37 NoFp) (fun _ _ h => h.elim))
        have hz37 : w1.heap.size ≤ w37.heap.size := Nat.le_trans hz36 (Chg.new hal37 NoFp).size
        clear hal37 hw37 hb37
        refine wpList_append_rd rfl _ _ TSs rfl w1.heap.size TSt _ 1 16 Try.underlying33 infoSt rfl (by decide) _ r _ rfl HA37.out _ 1 [.string (B val)] rfl HQ37.out (by simp [Value.oneCell']) (by simp only [maxLen]; omega) (by omega) hz37 ?_
        intro p38 c38 w38 ho38 hg38 hv38
        have hc38 := Chg.grown hg38
        have HO38 := hid (own_chg HB37.out hc38 (fun g h1 h2 => HN36.out.symm g h1 h2))
        have HN38 := hid (neB_next HN36.out.symm (fun g h1 => (own_lt HB37.out g h1).2) hv38)
        have HW38 := hid (HW37.out.chg hc38 (fun k hk h => by have := HGL.out k hk; have := (own_lt HA37.out k h).1; omega))
        have HG38 := hid (HG37.out.trans hc38 (fun k hk h => absurd hk (by have := (own_lt HA37.out k h).1; omega)))
        have hz38 : w1.heap.size ≤ w38.heap.size := Nat.le_trans hz37 hc38.size
        have HE38 := hid ho38
        clear ho38 hg38 hv38 hc38
        go_wp2_with fail
        obtain ⟨w39, hw39⟩ : ∃ x, w38.drew = x := ⟨_, rfl⟩
        have hal39 : Below w38.heap.size w38 w39 := by rw [← hw39]; exact below_drewN (Below.refl _ _) 1
        have HA39 := hid (own_new HO38.out hal39)
        have HB39 := hid (own_new HE38.out hal39)
        have HW39 := hid (HW38.out.chg (Chg.new hal39 NoFp) (fun _ _ h => h))
        have HG39 := hid (HG38.out.trans (Chg.new hal39 NoFp) (fun _ _ h => h.elim))
        have hz39 : w1.heap.size ≤ w39.heap.size := Nat.le_trans hz38 (Chg.new hal39 NoFp).size
        refine wp_region_plan3 (fun w' => Blk w' gm [.slice pk n ck, .slice pv n cv] TM) (fun j => !([9, 17, 20, 23].contains j)) (fun j => [6, 14].contains j) (fun j => [20, 23].contains j)
          (.cons 0 (.cons 1 (.cons 2 (.cons 3 (.cons 4 (.cons 5 (.cons 6 (.cons 7 (.cons 8 (.cons 10 (.cons 11 (.cons 12 (.cons 13 (.cons 14 (.cons 15 (.cons 16 (.cons 9 (.cons 17 (.cons 18 (.cons 19 (.cons 20 (.cons 21 (.cons 22 (.cons 23 .nil)))))))))))))))))))))))) (by kernel_rfl) (by kernel_rfl) rfl (by kernel_rfl) (by kernel_rfl) (by rw [hw39]; exact HW39.out.bb HNN.out) ?_
        iterate 8 (apply wpPlan3_val; (case ho => rfl); (case hst => rfl); (case hw => rfl); (case hv => intro w' hS; (try (have hS := hS rfl; obtain ⟨x0, x1, _, _⟩ := mp_cells hS)); go_simp; first | done | rfl); intro K hK; go_simp; refine hK _ ?_; clear hK K)
        refine wpPlan3_slice rfl rfl rfl _ _ _ _ rfl TSt 1 Try.underlying33 (by kernel_rfl) _ _ _ rfl (HW39.out.kk HNN.out HKS.out).caps.1 (HW39.out.kk HNN.out HKS.out).caps.2 r n (n - r) (by omega) ⟨_, (r : Int), rfl, by omega, by omega⟩ rfl (by omega) (by omega) ?_
        intro pkb39 ckb39 hskb39 K hK
        go_simp
        refine hK _ ?_
        clear hK K
        have HSkb39 := hid hskb39
        clear hskb39
        iterate 6 (apply wpPlan3_val; (case ho => rfl); (case hst => rfl); (case hw => rfl); (case hv => intro w' hS; (try (have hS := hS rfl; obtain ⟨x0, x1, _, _⟩ := mp_cells hS)); go_simp; first | done | rfl); intro K hK; go_simp; refine hK _ ?_; clear hK K)
        refine wpPlan3_slice rfl rfl rfl _ _ _ _ rfl TSt 1 Try.underlying33 (by kernel_rfl) _ _ _ rfl (HW39.out.vv HNN.out HVS.out).caps.1 (HW39.out.vv HNN.out HVS.out).caps.2 r n (n - r) (by omega) ⟨_, (r : Int), rfl, by omega, by omega⟩ rfl (by omega) (by omega) ?_
        intro pvb39 cvb39 hsvb39 K hK
        go_simp
        refine hK _ ?_
        clear hK K
        have HSvb39 := hid hsvb39
        clear hsvb39
        rw [hw39]
        clear hw39 hal39
        refine wpPlan3_list rfl rfl rfl (fun K hK => ?_)
        refine wpList_append_rd rfl _ _ TSs rfl w1.heap.size TSt _ 1 16 Try.underlying33 infoSt rfl (by decide) _ (r + 1) _ rfl HA39.out _ (n - r) _ rfl (HSkb39.out _ _ (HW39.out.kk HNN.out HKS.out)) (by rw [tv_from _ (m := n - r) (by rw [HKL.out]; omega)]; exact tv_one _) (by simp only [maxLen]; omega) (by omega) hz39 ?_
        intro p40 c40 w40 ho40 hg40 hv40
        rw [tv_from _ (m := n - r) (by rw [HKL.out]; omega)] at ho40
        have hc40 := Chg.grown hg40
        simp only [wpList]
        have HO40 := hid (own_chg HB39.out hc40 (fun g h1 h2 => HN38.out.symm g h1 h2))
        have HN40 := hid (neB_next HN38.out.symm (fun g h1 => (own_lt HB39.out g h1).2) hv40)
        have HW40 := hid (HW39.out.chg hc40 (fun k hk h => by have := HGL.out k hk; have := (own_lt HA39.out k h).1; omega))
        have HG40 := hid (HG39.out.trans hc40 (fun k hk h => absurd hk (by have := (own_lt HA39.out k h).1; omega)))
        have hz40 : w1.heap.size ≤ w40.heap.size := Nat.le_trans hz39 hc40.size
        have HE40 := hid ho40
        clear ho40 hg40 hv40 hc40
        refine hK _ _ (fun _ => HW40.out.bb HNN.out) ?_
        clear hK K
        refine wpPlan3_list rfl rfl rfl (fun K hK => ?_)
        refine wpList_append_rd rfl _ _ TSs rfl w1.heap.size TSt _ 1 16 Try.underlying33 infoSt rfl (by decide) _ (r + 1) _ rfl HO40.out _ (n - r) _ rfl (HSvb39.out _ _ (HW40.out.vv HNN.out HVS.out)) (by rw [tv_from _ (m := n - r) (by rw [HVL.out]; omega)]; exact tv_one _) (by simp only [maxLen]; omega) (by omega) hz40 ?_
        intro p41 c41 w41 ho41 hg41 hv41
        rw [tv_from _ (m := n - r) (by rw [HVL.out]; omega)] at ho41
        have hc41 := Chg.grown hg41
        simp only [wpList]
        have HO41 := hid (own_chg HE40.out hc41 (fun g h1 h2 => HN40.out.symm g h1 h2))
        have HN41 := hid (neB_next HN40.out.symm (fun g h1 => (own_lt HE40.out g h1).2) hv41)
        have HW41 := hid (HW40.out.chg hc41 (fun k hk h => by have := HGL.out k hk; have := (own_lt HO40.out k h).1; omega))
        have HG41 := hid (HG40.out.trans hc41 (fun k hk h => absurd hk (by have := (own_lt HO40.out k h).1; omega)))
        have hz41 : w1.heap.size ≤ w41.heap.size := Nat.le_trans hz40 hc41.size
        have HE41 := hid ho41
        clear ho41 hg41 hv41 hc41
        refine hK _ _ (fun _ => HW41.out.bb HNN.out) ?_
        clear hK K
        (apply wpPlan3_val; (case ho => rfl); (case hst => rfl); (case hw => rfl); (case hv => intro w' hS; (try (have hS := hS rfl; obtain ⟨x0, x1, _, _⟩ := mp_cells hS)); go_simp; first | done | rfl); intro K hK; go_simp; refine hK _ ?_; clear hK K)
        (apply wpPlan3_val; (case ho => rfl); (case hst => rfl); (case hw => rfl); (case hv => intro w' hS; (try (have hS := hS rfl; obtain ⟨x0, x1, _, _⟩ := mp_cells hS)); go_simp; first | done | rfl); intro K hK; go_simp; refine hK _ ?_; clear hK K)
        obtain ⟨x0, x1, f0, f1⟩ := mp_cells (HW41.out.bb HNN.out)
        refine wpPlan3_list rfl rfl rfl (fun K hK => ?_)
        refine wpList_step (fun K2 hK2 => ?_)
        go_simp
        refine hK2 _ _ ?_
        clear hK2 K2
        simp only [wpList]
        refine hK _ _ (fun h => by cases h) ?_
        clear hK K
        (apply wpPlan3_val; (case ho => rfl); (case hst => rfl); (case hw => rfl); (case hv => intro w' hS; (try (have hS := hS rfl; obtain ⟨x0, x1, _, _⟩ := mp_cells hS)); go_simp; first | done | rfl); intro K hK; go_simp; refine hK _ ?_; clear hK K)
        (apply wpPlan3_val; (case ho => rfl); (case hst => rfl); (case hw => rfl); (case hv => intro w' hS; (try (have hS := hS rfl; obtain ⟨x0, x1, _, _⟩ := mp_cells hS)); go_simp; first | done | rfl); intro K hK; go_simp; refine hK _ ?_; clear hK K)
        refine wpPlan3_list rfl rfl rfl (fun K hK => ?_)
        refine wpList_step (fun K2 hK2 => ?_)
        go_simp
        refine hK2 _ _ ?_
        clear hK2 K2
        simp only [wpList]
        refine hK _ _ (fun h => by cases h) ?_
        clear hK K
        refine wpPlan3_nil ?_
        simp only [Qn]
        obtain ⟨wf, hwf⟩ : ∃ x, (w41.setCell ⟨gm, 0, none⟩ (.slice p40 (r + 1 + (n - r)) c40)).setCell ⟨gm, 1, none⟩ (.slice p41 (r + 1 + (n - r)) c41) = x := ⟨_, rfl⟩
        have hcf : Chg (fun k => k = gm) w41 wf := by rw [← hwf]; exact (Chg.setCell (fp := fun k => k = gm) _ rfl _).trans (Chg.setCell (fp := fun k => k = gm) _ rfl _) (fun _ _ h => h)
        have hbf : Blk wf gm [.slice p40 (r + 1 + (n - r)) c40, .slice p41 (r + 1 + (n - r)) c41] TM := by rw [← hwf]; exact ((HW41.out.bb HNN.out).set 0 _).set 1 _
        rw [hwf]
        have hkf := own_chg HO41.out hcf (fun k hk h => by have := (own_lt HO41.out k hk).1; have := HGL.out gm HGM.out; omega)
        have hvf := own_chg HE41.out hcf (fun k hk h => by have := (own_lt HE41.out k hk).1; have := HGL.out gm HGM.out; omega)
        go_wp2_with fail
        go_ret
        have hp := setM_parts (val := val) HSRT.out HB.out
        rw [HNN.out] at hp
        rw [HR.out, HKS.out, HVS.out] at hp
        have hl9 : r + 1 + (n - r) = n + 1 := by omega
        rw [hl9] at hbf hkf hvf
        have hne9 : NeB (.slice p40 (n + 1) c40) (.slice p41 (n + 1) c41) := by rw [← hl9]; exact HN41.out
        refine ⟨rfl, fun k => G k ∨ (w1.heap.size ≤ k ∧ k < wf.heap.size), ⟨B0, p40, c40, p41, c41, ⟨by rw [hp.1]; exact hbf, ?_, ?_, by rw [hp.1]; exact hne9, ?_, ?_⟩⟩, HG41.out.trans hcf (fun k _ h => by rw [h]; exact HGM.out), fun k h => h.imp id (fun h => by omega)⟩
        · rw [hp.1, hp.2.1]; exact own_base (B0 := B0) (by rw [tv_app, tv_app]; exact hkf) (by have := HGL.out gm HGM.out; omega)
        · rw [hp.1, hp.2.2]; exact own_base (B0 := B0) (by rw [tv_app, tv_app]; exact hvf) (by have := HGL.out gm HGM.out; omega)
        · rw [hp.1]; exact ⟨.inl HGM.out, fun k hk => .inr (own_lt hkf k hk), fun k hk => .inr (own_lt hvf k hk)⟩
        · intro k hk; rcases hk with hk | hk; exact ⟨(HW41.out.bd k hk).1, Nat.lt_of_lt_of_le (HW41.out.bd k hk).2 hcf.size⟩; exact ⟨by have := HGL.out gm HGM.out; omega, hk.2⟩
    · refine effect_list rfl rfl (fun K hK => ?_)
      refine wpList_step (fun K2 hK2 => ?_)
      go_simp
      refine hK2 _ _ ?_
      clear hK2 K2
      simp only [wpList]
      obtain ⟨b42, hb42⟩ : ∃ b, wz.heap.size = b := ⟨_, rfl⟩
      obtain ⟨w42, hw42⟩ : ∃ x, wz.alloc (.cells #[] TSt) = x := ⟨_, rfl⟩
      have hal42 : Below wz.heap.size wz w42 := by rw [← hw42]; exact (Below.refl _ _).alloc (Nat.le_refl _) _
      have HE42 := hid (show w42.ownsRow w1.heap.size TSt 1 (.slice (some ⟨b42, 0, none⟩) 0 0) 0 [] from by rw [← hw42, ← hb42]; exact own_empty wz TSt 1 _ rfl w1.heap.size hzz)
      rw [hw42, hb42]
      have HW42 := hid (HWz.out.chg (Chg.new hal42 NoFp) (fun _ _ h => h))
      have HG42 := hid (HGz.out.trans (Chg.new hal42 NoFp) (fun _ _ h => h.elim))
      have hz42 : w1.heap.size ≤ w42.heap.size := Nat.le_trans hzz (Chg.new hal42 NoFp).size
      clear hal42 hw42 hb42
      refine hK _ _ (fun _ => HW42.out.bb HNN.out) ?_
      clear hK K
      refine wpPlan3_list rfl rfl rfl (fun K hK => ?_)
      refine wpList_step (fun K2 hK2 => ?_)
      go_simp
      refine hK2 _ _ ?_
      clear hK2 K2
      simp only [wpList]
      obtain ⟨b43, hb43⟩ : ∃ b, w42.heap.size = b := ⟨_, rfl⟩
      obtain ⟨w43, hw43⟩ : ∃ x, w42.alloc (.cells #[] TSt) = x := ⟨_, rfl⟩
      have hal43 : Below w42.heap.size w42 w43 := by rw [← hw43]; exact (Below.refl _ _).alloc (Nat.le_refl _) _
      have HE43 := hid (show w43.ownsRow w1.heap.size TSt 1 (.slice (some ⟨b43, 0, none⟩) 0 0) 0 [] from by rw [← hw43, ← hb43]; exact own_empty w42 TSt 1 _ rfl w1.heap.size hz42)
      rw [hw43, hb43]
      have HO43 := hid (own_new HE42.out hal43)
      have HN43 : Hid (NeB (.slice (some ⟨b42, 0, none⟩) 0 0) (.slice (some ⟨b43, 0, none⟩) 0 0)) := hid (fun g h1 h2 => by have := (own_lt HE42.out g h1).2; have h3 : b43 = g := (by simpa [Value.ownBlock] using h2); omega)
      have HW43 := hid (HW42.out.chg (Chg.new hal43 NoFp) (fun _ _ h => h))
      have HG43 := hid (HG42.out.trans (Chg.new hal43 NoFp) (fun _ _ h => h.elim))
      have hz43 : w1.heap.size ≤ w43.heap.size := Nat.le_trans hz42 (Chg.new hal43 NoFp).size
      clear hal43 hw43 hb43
      refine hK _ _ (fun _ => HW43.out.bb HNN.out) ?_
      clear hK K
      refine wpPlan3_list rfl rfl rfl (fun K hK => ?_)
      refine wpList_append_rd rfl _ _ TSs rfl w1.heap.size TSt _ 1 16 Try.underlying33 infoSt rfl (by decide) _ 0 [] rfl HE43.out _ r _ rfl (HSka.out _ _ (HW43.out.kk HNN.out HKS.out)) (by rw [tv_to]; exact tv_one _) (by simp only [maxLen]; omega) (by omega) hz43 ?_
      intro p44 c44 w44 ho44 hg44 hv44
      rw [Nat.zero_add] at ho44 hv44 ⊢
      rw [tv_to, List.nil_append] at ho44
      have hc44 := Chg.grown hg44
      simp only [wpList]
      have HO44 := hid (own_chg HO43.out hc44 (fun g h1 h2 => HN43.out g h1 h2))
      have HN44 := hid (neB_next HN43.out (fun g h1 => (own_lt HO43.out g h1).2) hv44)
      have HW44 := hid (HW43.out.chg hc44 (fun k hk h => by have := HGL.out k hk; have := (own_lt HE43.out k h).1; omega))
      have HG44 := hid (HG43.out.trans hc44 (fun k hk h => absurd hk (by have := (own_lt HE43.out k h).1; omega)))
      have hz44 : w1.heap.size ≤ w44.heap.size := Nat.le_trans hz43 hc44.size
      have HE44 := hid ho44
      clear ho44 hg44 hv44 hc44
      refine hK _ _ (fun _ => HW44.out.bb HNN.out) ?_
      clear hK K
      refine wpPlan3_list rfl rfl rfl (fun K hK => ?_)
      refine wpList_append_rd rfl _ _ TSs rfl w1.heap.size TSt _ 1 16 Try.underlying33 infoSt rfl (by decide) _ 0 [] rfl HO44.out _ r _ rfl (HSva.out _ _ (HW44.out.vv HNN.out HVS.out)) (by rw [tv_to]; exact tv_one _) (by simp only [maxLen]; omega) (by omega) hz44 ?_
      intro p45 c45 w45 ho45 hg45 hv45
      rw [Nat.zero_add] at ho45 hv45 ⊢
      rw [tv_to, List.nil_append] at ho45
      have hc45 := Chg.grown hg45
      simp only [wpList]
      have HO45 := hid (own_chg HE44.out hc45 (fun g h1 h2 => HN44.out.symm g h1 h2))
      have HN45 := hid (neB_next HN44.out.symm (fun g h1 => (own_lt HE44.out g h1).2) hv45)
      have HW45 := hid (HW44.out.chg hc45 (fun k hk h => by have := HGL.out k hk; have := (own_lt HO44.out k h).1; omega))
      have HG45 := hid (HG44.out.trans hc45 (fun k hk h => absurd hk (by have := (own_lt HO44.out k h).1; omega)))
      have hz45 : w1.heap.size ≤ w45.heap.size := Nat.le_trans hz44 hc45.size
      have HE45 := hid ho45
      clear ho45 hg45 hv45 hc45
      refine hK _ _ (fun _ => HW45.out.bb HNN.out) ?_
      clear hK K
      (apply wpPlan3_val; (case ho => rfl); (case hst => rfl); (case hw => rfl); (case hv => intro w' hS; go_simp; first | done | rfl); intro K hK; go_simp; refine hK _ ?_; clear hK K)
      (apply wpPlan3_val; (case ho => rfl); (case hst => rfl); (case hw => rfl); (case hv => intro w' hS; go_simp; first | done | rfl); intro K hK; go_simp; refine hK _ ?_; clear hK K)
      refine wpPlan3_nil ?_
      simp only [Qn]
      go_wp2_with (at_builtin; refine wp_keep ?_)
      refine hid ?_
      obtain ⟨b46, hb46⟩ : ∃ b, w45.heap.size = b := ⟨_, rfl⟩
      obtain ⟨w46, hw46⟩ : ∃ x, w45.alloc (.cells #[.string (B key)] TSt) = x := ⟨_, rfl⟩
      have hal46 : Below w45.heap.size w45 w46 := by rw [← hw46]; exact (Below.refl _ _).alloc (Nat.le_refl _) _
      have HQ46 := hid (show Rd w46 1 (.slice (some ⟨b46, 0, none⟩) 1 1) 1 [.string (B key)] from by rw [← hw46, ← hb46]; exact Rd.fresh1 _ _ _)
      rw [hw46, hb46]
      have HA46 := hid (own_new HO45.out hal46)
      have HB46 := hid (own_new HE45.out hal46)
      have HW46 := hid (HW45.out.chg (Chg.new hal46 NoFp) (fun _ _ h => h))
      have HG46 := hid (HG45.out.trans (Chg.new hal46 NoFp) (fun _ _ h => h.elim))
      have hz46 : w1.heap.size ≤ w46.heap.size := Nat.le_trans hz45 (Chg.new hal46 NoFp).size
      clear hal46 hw46 hb46
      refine wpList_append_rd rfl _ _ TSs rfl w1.heap.size TSt _ 1 16 Try.underlying33 infoSt rfl (by decide) _ r _ rfl HA46.out _ 1 [.string (B key)] rfl HQ46.out (by simp [Value.oneCell']) (by simp only [maxLen]; omega) (by omega) hz46 ?_
      intro p47 c47 w47 ho47 hg47 hv47
      have hc47 := Chg.grown hg47
      have HO47 := hid (own_chg HB46.out hc47 (fun g h1 h2 => HN45.out.symm g h1 h2))
      have HN47 := hid (neB_next HN45.out.symm (fun g h1 => (own_lt HB46.out g h1).2) hv47)
      have HW47 := hid (HW46.out.chg hc47 (fun k hk h => by have := HGL.out k hk; have := (own_lt HA46.out k h).1; omega))
      have HG47 := hid (HG46.out.trans hc47 (fun k hk h => absurd hk (by have := (own_lt HA46.out k h).1; omega)))
      have hz47 : w1.heap.size ≤ w47.heap.size := Nat.le_trans hz46 hc47.size
      have HE47 := hid ho47
      clear ho47 hg47 hv47 hc47
      go_wp2_with (at_builtin; refine wp_keep ?_)
      refine hid ?_
      obtain ⟨b48, hb48⟩ : ∃ b, w47.heap.size = b := ⟨_, rfl⟩
      obtain ⟨w48, hw48⟩ : ∃ x, w47.alloc (.cells #[.string (B val)] TSt) = x := ⟨_, rfl⟩
      have hal48 : Below w47.heap.size w47 w48 := by rw [← hw48]; exact (Below.refl _ _).alloc (Nat.le_refl _) _
      have HQ48 := hid (show Rd w48 1 (.slice (some ⟨b48, 0, none⟩) 1 1) 1 [.string (B val)] from by rw [← hw48, ← hb48]; exact Rd.fresh1 _ _ _)
      rw [hw48, hb48]
      have HA48 := hid (own_new HO47.out hal48)
      have HB48 := hid (own_new HE47.out hal48)
      have HW48 := hid (HW47.out.chg (Chg.new hal48 NoFp) (fun _ _ h => h))
      have HG48 := hid (HG47.out.trans (Chg.new hal48 NoFp) (fun _ _ h => h.elim))
      have hz48 : w1.heap.size ≤ w48.heap.size := Nat.le_trans hz47 (Chg.new hal48 NoFp).size
      clear hal48 hw48 hb48
      refine wpList_append_rd rfl _ _ TSs rfl w1.heap.size TSt _ 1 16 Try.underlying33 infoSt rfl (by decide) _ r _ rfl HA48.out _ 1 [.string (B val)] rfl HQ48.out (by simp [Value.oneCell']) (by simp only [maxLen]; omega) (by omega) hz48 ?_
      intro p49 c49 w49 ho49 hg49 hv49
      have hc49 := Chg.grown hg49
      have HO49 := hid (own_chg HB48.out hc49 (fun g h1 h2 => HN47.out.symm g h1 h2))
      have HN49 := hid (neB_next HN47.out.symm (fun g h1 => (own_lt HB48.out g h1).2) hv49)
      have HW49 := hid (HW48.out.chg hc49 (fun k hk h => by have := HGL.out k hk; have := (own_lt HA48.out k h).1; omega))
      have HG49 := hid (HG48.out.trans hc49 (fun k hk h => absurd hk (by have := (own_lt HA48.out k h).1; omega)))
      have hz49 : w1.heap.size ≤ w49.heap.size := Nat.le_trans hz48 hc49.size
      have HE49 := hid ho49
      clear ho49 hg49 hv49 hc49
      go_wp2_with fail
      obtain ⟨w50, hw50⟩ : ∃ x, w49.drew = x := ⟨_, rfl⟩
      have hal50 : Below w49.heap.size w49 w50 := by rw [← hw50]; exact below_drewN (Below.refl _ _) 1
      have HA50 := hid (own_new HO49.out hal50)
      have HB50 := hid (own_new HE49.out hal50)
      have HW50 := hid (HW49.out.chg (Chg.new hal50 NoFp) (fun _ _ h => h))
      have HG50 := hid (HG49.out.trans (Chg.new hal50 NoFp) (fun _ _ h => h.elim))
      have hz50 : w1.heap.size ≤ w50.heap.size := Nat.le_trans hz49 (Chg.new hal50 NoFp).size
      refine wp_region_plan3 (fun w' => Blk w' gm [.slice pk n ck, .slice pv n cv] TM) (fun j => !([9, 17, 20, 23].contains j)) (fun j => [6, 14].contains j) (fun j => [20, 23].contains j)
        (.cons 0 (.cons 1 (.cons 2 (.cons 3 (.cons 4 (.cons 5 (.cons 6 (.cons 7 (.cons 8 (.cons 10 (.cons 11 (.cons 12 (.cons 13 (.cons 14 (.cons 15 (.cons 16 (.cons 9 (.cons 17 (.cons 18 (.cons 19 (.cons 20 (.cons 21 (.cons 22 (.cons 23 .nil)))))))))))))))))))))))) (by kernel_rfl) (by kernel_rfl) rfl (by kernel_rfl) (by kernel_rfl) (by rw [hw50]; exact HW50.out.bb HNN.out) ?_
      iterate 8 (apply wpPlan3_val; (case ho => rfl); (case hst => rfl); (case hw => rfl); (case hv => intro w' hS; (try (have hS := hS rfl; obtain ⟨x0, x1, _, _⟩ := mp_cells hS)); go_simp; first | done | rfl); intro K hK; go_simp; refine hK _ ?_; clear hK K)
      refine wpPlan3_slice rfl rfl rfl _ _ _ _ rfl TSt 1 Try.underlying33 (by kernel_rfl) _ _ _ rfl (HW50.out.kk HNN.out HKS.out).caps.1 (HW50.out.kk HNN.out HKS.out).caps.2 r n (n - r) (by omega) ⟨_, (r : Int), rfl, by omega, by omega⟩ rfl (by omega) (by omega) ?_
      intro pkb50 ckb50 hskb50 K hK
      go_simp
      refine hK _ ?_
      clear hK K
      have HSkb50 := hid hskb50
      clear hskb50
      iterate 6 (apply wpPlan3_val; (case ho => rfl); (case hst => rfl); (case hw => rfl); (case hv => intro w' hS; (try (have hS := hS rfl; obtain ⟨x0, x1, _, _⟩ := mp_cells hS)); go_simp; first | done | rfl); intro K hK; go_simp; refine hK _ ?_; clear hK K)
      refine wpPlan3_slice rfl rfl rfl _ _ _ _ rfl TSt 1 Try.underlying33 (by kernel_rfl) _ _ _ rfl (HW50.out.vv HNN.out HVS.out).caps.1 (HW50.out.vv HNN.out HVS.out).caps.2 r n (n - r) (by omega) ⟨_, (r : Int), rfl, by omega, by omega⟩ rfl (by omega) (by omega) ?_
      intro pvb50 cvb50 hsvb50 K hK
      go_simp
      refine hK _ ?_
      clear hK K
      have HSvb50 := hid hsvb50
      clear hsvb50
      rw [hw50]
      clear hw50 hal50
      refine wpPlan3_list rfl rfl rfl (fun K hK => ?_)
      refine wpList_append_rd rfl _ _ TSs rfl w1.heap.size TSt _ 1 16 Try.underlying33 infoSt rfl (by decide) _ (r + 1) _ rfl HA50.out _ (n - r) _ rfl (HSkb50.out _ _ (HW50.out.kk HNN.out HKS.out)) (by rw [tv_from _ (m := n - r) (by rw [HKL.out]; omega)]; exact tv_one _) (by simp only [maxLen]; omega) (by omega) hz50 ?_
      intro p51 c51 w51 ho51 hg51 hv51
      rw [tv_from _ (m := n - r) (by rw [HKL.out]; omega)] at ho51
      have hc51 := Chg.grown hg51
      simp only [wpList]
      have HO51 := hid (own_chg HB50.out hc51 (fun g h1 h2 => HN49.out.symm g h1 h2))
      have HN51 := hid (neB_next HN49.out.symm (fun g h1 => (own_lt HB50.out g h1).2) hv51)
      have HW51 := hid (HW50.out.chg hc51 (fun k hk h => by have := HGL.out k hk; have := (own_lt HA50.out k h).1; omega))
      have HG51 := hid (HG50.out.trans hc51 (fun k hk h => absurd hk (by have := (own_lt HA50.out k h).1; omega)))
      have hz51 : w1.heap.size ≤ w51.heap.size := Nat.le_trans hz50 hc51.size
      have HE51 := hid ho51
      clear ho51 hg51 hv51 hc51
      refine hK _ _ (fun _ => HW51.out.bb HNN.out) ?_
      clear hK K
      refine wpPlan3_list rfl rfl rfl (fun K hK => ?_)
      refine wpList_append_rd rfl _ _ TSs rfl w1.heap.size TSt _ 1 16 Try.underlying33 infoSt rfl (by decide) _ (r + 1) _ rfl HO51.out _ (n - r) _ rfl (HSvb50.out _ _ (HW51.out.vv HNN.out HVS.out)) (by rw [tv_from _ (m := n - r) (by rw [HVL.out]; omega)]; exact tv_one _) (by simp only [maxLen]; omega) (by omega) hz51 ?_
      intro p52 c52 w52 ho52 hg52 hv52
      rw [tv_from _ (m := n - r) (by rw [HVL.out]; omega)] at ho52
      have hc52 := Chg.grown hg52
      simp only [wpList]
      have HO52 := hid (own_chg HE51.out hc52 (fun g h1 h2 => HN51.out.symm g h1 h2))
      have HN52 := hid (neB_next HN51.out.symm (fun g h1 => (own_lt HE51.out g h1).2) hv52)
      have HW52 := hid (HW51.out.chg hc52 (fun k hk h => by have := HGL.out k hk; have := (own_lt HO51.out k h).1; omega))
      have HG52 := hid (HG51.out.trans hc52 (fun k hk h => absurd hk (by have := (own_lt HO51.out k h).1; omega)))
      have hz52 : w1.heap.size ≤ w52.heap.size := Nat.le_trans hz51 hc52.size
      have HE52 := hid ho52
      clear ho52 hg52 hv52 hc52
      refine hK _ _ (fun _ => HW52.out.bb HNN.out) ?_
      clear hK K
      (apply wpPlan3_val; (case ho => rfl); (case hst => rfl); (case hw => rfl); (case hv => intro w' hS; (try (have hS := hS rfl; obtain ⟨x0, x1, _, _⟩ := mp_cells hS)); go_simp; first | done | rfl); intro K hK; go_simp; refine hK _ ?_; clear hK K)
      (apply wpPlan3_val; (case ho => rfl); (case hst => rfl); (case hw => rfl); (case hv => intro w' hS; (try (have hS := hS rfl; obtain ⟨x0, x1, _, _⟩ := mp_cells hS)); go_simp; first | done | rfl); intro K hK; go_simp; refine hK _ ?_; clear hK K)
      obtain ⟨x0, x1, f0, f1⟩ := mp_cells (HW52.out.bb HNN.out)
      refine wpPlan3_list rfl rfl rfl (fun K hK => ?_)
      refine wpList_step (fun K2 hK2 => ?_)
      go_simp
      refine hK2 _ _ ?_
      clear hK2 K2
      simp only [wpList]
      refine hK _ _ (fun h => by cases h) ?_
      clear hK K
      (apply wpPlan3_val; (case ho => rfl); (case hst => rfl); (case hw => rfl); (case hv => intro w' hS; (try (have hS := hS rfl; obtain ⟨x0, x1, _, _⟩ := mp_cells hS)); go_simp; first | done | rfl); intro K hK; go_simp; refine hK _ ?_; clear hK K)
      (apply wpPlan3_val; (case ho => rfl); (case hst => rfl); (case hw => rfl); (case hv => intro w' hS; (try (have hS := hS rfl; obtain ⟨x0, x1, _, _⟩ := mp_cells hS)); go_simp; first | done | rfl); intro K hK; go_simp; refine hK _ ?_; clear hK K)
      refine wpPlan3_list rfl rfl rfl (fun K hK => ?_)
      refine wpList_step (fun K2 hK2 => ?_)
      go_simp
      refine hK2 _ _ ?_
      clear hK2 K2
      simp only [wpList]
      refine hK _ _ (fun h => by cases h) ?_
      clear hK K
      refine wpPlan3_nil ?_
      simp only [Qn]
      obtain ⟨wf, hwf⟩ : ∃ x, (w52.setCell ⟨gm, 0, none⟩ (.slice p51 (r + 1 + (n - r)) c51)).setCell ⟨gm, 1, none⟩ (.slice p52 (r + 1 + (n - r)) c52) = x := ⟨_, rfl⟩
      have hcf : Chg (fun k => k = gm) w52 wf := by rw [← hwf]; exact (Chg.setCell (fp := fun k => k = gm) _ rfl _).trans (Chg.setCell (fp := fun k => k = gm) _ rfl _) (fun _ _ h => h)
      have hbf : Blk wf gm [.slice p51 (r + 1 + (n - r)) c51, .slice p52 (r + 1 + (n - r)) c52] TM := by rw [← hwf]; exact ((HW52.out.bb HNN.out).set 0 _).set 1 _
      rw [hwf]
      have hkf := own_chg HO52.out hcf (fun k hk h => by have := (own_lt HO52.out k hk).1; have := HGL.out gm HGM.out; omega)
      have hvf := own_chg HE52.out hcf (fun k hk h => by have := (own_lt HE52.out k hk).1; have := HGL.out gm HGM.out; omega)
      go_wp2_with fail
      go_ret
      have hp := setM_parts (val := val) HSRT.out HB.out
      rw [HNN.out] at hp
      rw [HR.out, HKS.out, HVS.out] at hp
      have hl9 : r + 1 + (n - r) = n + 1 := by omega
      rw [hl9] at hbf hkf hvf
      have hne9 : NeB (.slice p51 (n + 1) c51) (.slice p52 (n + 1) c52) := by rw [← hl9]; exact HN52.out
      refine ⟨rfl, fun k => G k ∨ (w1.heap.size ≤ k ∧ k < wf.heap.size), ⟨B0, p51, c51, p52, c52, ⟨by rw [hp.1]; exact hbf, ?_, ?_, by rw [hp.1]; exact hne9, ?_, ?_⟩⟩, HG52.out.trans hcf (fun k _ h => by rw [h]; exact HGM.out), fun k h => h.imp id (fun h => by omega)⟩
      · rw [hp.1, hp.2.1]; exact own_base (B0 := B0) (by rw [tv_app, tv_app]; exact hkf) (by have := HGL.out gm HGM.out; omega)
      · rw [hp.1, hp.2.2]; exact own_base (B0 := B0) (by rw [tv_app, tv_app]; exact hvf) (by have := HGL.out gm HGM.out; omega)
      · rw [hp.1]; exact ⟨.inl HGM.out, fun k hk => .inr (own_lt hkf k hk), fun k hk => .inr (own_lt hvf k hk)⟩
      · intro k hk; rcases hk with hk | hk; exact ⟨(HW52.out.bd k hk).1, Nat.lt_of_lt_of_le (HW52.out.bd k hk).2 hcf.size⟩; exact ⟨by have := HGL.out gm HGM.out; omega, hk.2⟩
end Go.Proofs.Ytdilkgcoecipjaa

namespace Go.Proofs.Ytdilkgcoecipjaa
open Go.RowKit Go.Maps
set_option linter.unusedVariables false

theorem rngM_snoc (es : List En) (fr to : Tx) {i : Nat} {k u : Tx} (h : es[i]? = some (k, u)) : rngM (es.take (i + 1)) fr to = rngM (es.take i) fr to ++ (if inR fr to k = true then [(k, u)] else []) := by
  rw [List.take_add_one, h, rngM_app]
  congr 1
  show rngM [(k, u)] fr to = _
  unfold rngM
  cases hc : inR fr to k <;> simp [hc]
theorem rngM_pre (es : List En) (fr to : Tx) (i : Nat) : ∃ R, rngM es fr to = rngM (es.take i) fr to ++ R :=
  ⟨rngM (es.drop i) fr to, by rw [← rngM_app, List.take_append_drop]⟩

/-- what a range hands back -/
def RgTo (w : World) (E : List En) (e : Ending) (w' : World) : Prop :=
  ∃ (pk : Option Addr) (ck : Nat) (pv : Option Addr) (cv : Nat) (es2 : List En), es2 = E ∧
      e = .returned (.tuple #[.slice pk es2.length ck, .slice pv es2.length cv, .int .i64 0]) ∧ w'.ownsRow w.heap.size TSt 1 (.slice pk es2.length ck) es2.length (tv (es2.map (·.1))) ∧ w'.ownsRow w.heap.size TSt 1 (.slice pv es2.length cv) es2.length (tv (es2.map (·.2))) ∧ Below w.heap.size w w'
set_option maxRecDepth 100000 in
set_option maxHeartbeats 8000000 in
theorem mrange_any (w : World) (gm : Nat) (G : Nat → Prop) (es : List En) (fr to : Tx) (most : Nat) (h : Mp w gm G es) (hn : es.length ≤ 10000) (hm : most ≤ 4611686018427387904) :
    Calls Try.prog 14 #[.pointer (some ⟨gm, 0, none⟩), .string (B fr), .string (B to), .int .i64 (most : Int)] w (RgTo w ((rngM es fr to).take most)) := by
  obtain ⟨B0, pk, ck, pv, cv, hw⟩ := h
  obtain ⟨n, hnn⟩ : ∃ n, es.length = n := ⟨_, rfl⟩
  have hblk := hw.blk
  have hkk := hw.keys
  have hvv := hw.vals
  rw [hnn] at hblk hkk hvv hn
  have HBK := hid hblk
  have HKK := hid hkk
  have HVV := hid hvv
  have HNN := hid hnn
  have hgl : gm < w.heap.size := (hw.bd gm hw.inG.1).2
  have hm0 : ¬ (most : Int) < 0 := by omega
  clear hw hblk hkk hvv hnn
  go_enter Try.func14, Try.ntmps14
  go_wp2_with fail
  go_loopw [13, 11, 12] (fun v13 v11 v12 wr => ∃ (i m : Nat) (es2 : List En) (pa : Option Addr) (ca : Nat) (pe : Option Addr) (ce : Nat), v13 = .int .i64 (i : Int) ∧ v11 = .slice pa m ca ∧ v12 = .slice pe m ce ∧ i ≤ n ∧ m ≤ most ∧ m ≤ i ∧ Hid (es2 = rngM (es.take i) fr to ∧ es2.length = m) ∧ Hid (wr.ownsRow w.heap.size TSt 1 (.slice pa m ca) m (tv (es2.map (·.1)))) ∧ Hid (wr.ownsRow w.heap.size TSt 1 (.slice pe m ce) m (tv (es2.map (·.2)))) ∧ Hid (NeB (.slice pa m ca) (.slice pe m ce)) ∧ Hid (Below w.heap.size w wr)) (fun v13 _ _ _ => n - (intOf v13).toNat)
  case atStart => exact ⟨0, 0, [], none, 0, none, 0, rfl, rfl, rfl, Nat.zero_le _, Nat.zero_le _, Nat.le_refl _, hid ⟨rfl, rfl⟩, hid (World.ownsRow_nil _ _ _ _), hid (World.ownsRow_nil _ _ _ _), hid (fun g h => by cases h), hid (Below.refl _ _)⟩
  case round =>
    obtain ⟨i, m, es2, pa, ca, pe, ce, rfl, rfl, rfl, hi, hmm, hmi, HES, HRK, HRV, HNE, HB⟩ := hrel
    have hzr := HB.out.size
    have hsb : ∀ W, Below w.heap.size w W → Blk W gm [.slice pk n ck, .slice pv n cv] TM := fun W hb => HBK.out.chg (Chg.of_below (fp := fun k => w.heap.size ≤ k) hb (fun k _ h => h)) (by omega)
    obtain ⟨x0, x1, f0, f1⟩ := mp_cells (hsb wr HB.out)
    by_cases hlt : i < n
    · have hlt2 : (i : Int) < (n : Int) := by omega
      by_cases hml : m < most
      · have hml2 : (m : Int) < (most : Int) := by omega
        obtain ⟨⟨k, u⟩, hku⟩ : ∃ k, es[i]? = some k := ⟨_, List.getElem?_eq_getElem (by rw [HNN.out]; exact hlt)⟩
        obtain ⟨gk, rfl, hck⟩ := own_text HKK.out (by rw [List.length_map, HNN.out]) hlt (t := k) (by rw [List.getElem?_map, hku]; rfl)
        obtain ⟨gv, rfl, hcv⟩ := own_text HVV.out (by rw [List.length_map, HNN.out]) hlt (t := u) (by rw [List.getElem?_map, hku]; rfl)
        have hS : ∀ W, Below w.heap.size w W → Blk W gm [.slice (some ⟨gk, 0, none⟩) n ck, .slice (some ⟨gv, 0, none⟩) n cv] TM ∧ W.cell? ⟨gk, i, none⟩ = some (.string (B k)) ∧ W.cell? ⟨gv, i, none⟩ = some (.string (B u)) := fun W hb =>
          ⟨hsb W hb, (hb.cell (p := ⟨gk, i, none⟩) (World.block_lt_of_cell? _ _ hck)).trans hck, (hb.cell (p := ⟨gv, i, none⟩) (World.block_lt_of_cell? _ _ hcv)).trans hcv⟩
        have HSS := hid hS
        have hck2 := (hS wr HB.out).2.1
        have HSN := hid (rngM_snoc es fr to hku)
        have HSKIP : Hid (inR fr to k = false → es2 = rngM (es.take (i + 1)) fr to ∧ es2.length = m) := hid (fun h => by rw [HSN.out, h]; simpa using HES.out)
        have HTAKE : Hid (inR fr to k = true → es2 ++ [(k, u)] = rngM (es.take (i + 1)) fr to ∧ (es2 ++ [(k, u)]).length = m + 1) := hid (fun h => by rw [HSN.out, h, ← HES.out.1]; simp [HES.out.2])
        have HKV := hid (show tv ((es2 ++ [(k, u)]).map (·.1)) = tv (es2.map (·.1)) ++ [.string (B k)] ∧ tv ((es2 ++ [(k, u)]).map (·.2)) = tv (es2.map (·.2)) ++ [.string (B u)] from by simp [tv])
        clear hku hck hcv hS hsb
        cases hfr : ltB k fr
        case true =>
          have HIN := hid (HSKIP.out (by simp [inR, hfr]))
          go_wp2_with fail
          go_roundw
          case rel => exact ⟨i + 1, m, es2, pa, ca, pe, ce, by first | rfl | (congr 1), rfl, rfl, hlt, hmm, by omega, HIN, HRK, HRV, HNE, HB⟩
          case measure => simp [intOf]; omega
        case false =>
          cases hto : (to == [])
          case true =>
            have HIN := hid (HTAKE.out (by simp [inR, hfr, hto]))
            go_wp2_with fail
            obtain ⟨wz, hwz⟩ : ∃ x, wr.drew = x := ⟨_, rfl⟩
            have hbz : Below wr.heap.size wr wz := by rw [← hwz]; exact below_drewN (Below.refl _ _) 1
            have HRKz := hid (own_new HRK.out hbz)
            have HRVz := hid (own_new HRV.out hbz)
            have HBz := hid (HB.out.trans (hbz.mono hzr))
            have hzz : w.heap.size ≤ wz.heap.size := Nat.le_trans hzr hbz.size
            clear hbz x0 x1 f0 f1 hck2
            refine wp_region_plan3 (fun w' => Blk w' gm [.slice (some ⟨gk, 0, none⟩) n ck, .slice (some ⟨gv, 0, none⟩) n cv] TM ∧ w'.cell? ⟨gk, i, none⟩ = some (.string (B k)) ∧ w'.cell? ⟨gv, i, none⟩ = some (.string (B u))) (fun j => !([8, 9, 18, 19].contains j)) (fun j => [4, 7, 14, 17].contains j) (fun _ => false)
              (.cons 0 (.cons 1 (.cons 2 (.cons 3 (.cons 4 (.cons 5 (.cons 6 (.cons 7 (.cons 10 (.cons 11 (.cons 12 (.cons 13 (.cons 14 (.cons 15 (.cons 16 (.cons 17 (.fork 8 18 (.fork 9 18 (.cons 18 (.cons 19 (.cons 20 (.cons 21 .nil)))) (.cons 9 (.cons 19 (.cons 20 (.cons 21 .nil))))) (.cons 8 (.cons 9 (.cons 19 (.cons 20 (.cons 21 .nil)))))))))))))))))))))) (by kernel_rfl) (by kernel_rfl) rfl (by kernel_rfl) (by kernel_rfl) (by rw [hwz]; exact HSS.out _ HBz.out) ?_
            iterate 16 (apply wpPlan3_val; (case ho => rfl); (case hst => rfl); (case hw => rfl); (case hv => intro w' hS; (try (have hS := hS rfl; obtain ⟨x0, x1, _, _⟩ := mp_cells hS.1; have x2 := hS.2.1; have x3 := hS.2.2)); go_simp; first | done | rfl); intro K hK; go_simp; refine hK _ ?_; clear hK K)
            rw [hwz]
            clear hwz
            refine ⟨?_, ?_⟩
            · refine effect_list rfl rfl (fun K hK => ?_)
              refine wpList_step (fun K2 hK2 => ?_)
              go_simp
              refine hK2 _ _ ?_
              clear hK2 K2
              simp only [wpList]
              obtain ⟨b21, hb21⟩ : ∃ b, wz.heap.size = b := ⟨_, rfl⟩
              obtain ⟨w21, hw21⟩ : ∃ x, wz.alloc (.cells #[.string (B k)] TSt) = x := ⟨_, rfl⟩
              have hal21 : Below wz.heap.size wz w21 := by rw [← hw21]; exact (Below.refl _ _).alloc (Nat.le_refl _) _
              have HQ21 : Hid (Blk w21 b21 [.string (B k)] TSt) := hid (by rw [← hw21, ← hb21]; exact heap_alloc_new _ _)
              have F21 := hid (show Value.ownBlock (.slice pa m ca) ≠ some b21 from fun h => by have := (own_lt HRKz.out _ h).2; omega)
              rw [hw21, hb21]
              have HA21 := hid (own_new HRKz.out hal21)
              have HV21 := hid (own_new HRVz.out hal21)
              have HB21 := hid (HBz.out.trans (hal21.mono hzz))
              have hz21 : w.heap.size ≤ w21.heap.size := Nat.le_trans hzz hal21.size
              clear hal21 hw21 hb21
              refine hK _ _ (fun _ => HSS.out _ HB21.out) ?_
              clear hK K
              refine ⟨?_, ?_⟩
              · refine effect_list rfl rfl (fun K hK => ?_)
                refine wpList_append_rd rfl _ _ TSs rfl w.heap.size TSt _ 1 16 Try.underlying33 infoSt rfl (by decide) _ m _ rfl HA21.out _ 1 [.string (B k)] rfl (rd_val HQ21.out) (by simp [Value.oneCell']) (by simp only [maxLen]; omega) (by omega) hz21 ?_
                intro p22 c22 w22 ho22 hg22 hv22
                have hc22 := Chg.grown hg22
                simp only [wpList]
                have HO22 := hid (own_chg HV21.out hc22 (fun g h1 h2 => HNE.out.symm g h1 h2))
                have HN22 := hid (neB_next HNE.out.symm (fun g h1 => (own_lt HV21.out g h1).2) hv22)
                have HB22 := hid (HB21.out.trans (hc22.below (B := w.heap.size) (fun g hg => (own_lt HA21.out g hg).1) hz21))
                have hz22 : w.heap.size ≤ w22.heap.size := Nat.le_trans hz21 hc22.size
                have HE22 := hid ho22
                clear ho22 hg22 hv22 hc22
                refine hK _ _ (fun _ => HSS.out _ HB22.out) ?_
                clear hK K
                refine wpPlan3_list rfl rfl rfl (fun K hK => ?_)
                refine wpList_step (fun K2 hK2 => ?_)
                go_simp
                refine hK2 _ _ ?_
                clear hK2 K2
                simp only [wpList]
                obtain ⟨b23, hb23⟩ : ∃ b, w22.heap.size = b := ⟨_, rfl⟩
                obtain ⟨w23, hw23⟩ : ∃ x, w22.alloc (.cells #[.string (B u)] TSt) = x := ⟨_, rfl⟩
                have hal23 : Below w22.heap.size w22 w23 := by rw [← hw23]; exact (Below.refl _ _).alloc (Nat.le_refl _) _
                have HQ23 : Hid (Blk w23 b23 [.string (B u)] TSt) := hid (by rw [← hw23, ← hb23]; exact heap_alloc_new _ _)
                have F23 := hid (show Value.ownBlock (.slice p22 (m + 1) c22) ≠ some b23 from fun h => by have := (own_lt HE22.out _ h).2; omega)
                rw [hw23, hb23]
                have HA23 := hid (own_new HE22.out hal23)
                have HV23 := hid (own_new HO22.out hal23)
                have HB23 := hid (HB22.out.trans (hal23.mono hz22))
                have hz23 : w.heap.size ≤ w23.heap.size := Nat.le_trans hz22 hal23.size
                clear hal23 hw23 hb23
                refine hK _ _ (fun _ => HSS.out _ HB23.out) ?_
                clear hK K
                refine wpPlan3_list rfl rfl rfl (fun K hK => ?_)
                refine wpList_append_rd rfl _ _ TSs rfl w.heap.size TSt _ 1 16 Try.underlying33 infoSt rfl (by decide) _ m _ rfl HV23.out _ 1 [.string (B u)] rfl (rd_val HQ23.out) (by simp [Value.oneCell']) (by simp only [maxLen]; omega) (by omega) hz23 ?_
                intro p24 c24 w24 ho24 hg24 hv24
                have hc24 := Chg.grown hg24
                simp only [wpList]
                have HO24 := hid (own_chg HA23.out hc24 (fun g h1 h2 => HN22.out.symm g h1 h2))
                have HN24 := hid (neB_next HN22.out.symm (fun g h1 => (own_lt HA23.out g h1).2) hv24)
                have HB24 := hid (HB23.out.trans (hc24.below (B := w.heap.size) (fun g hg => (own_lt HV23.out g hg).1) hz23))
                have hz24 : w.heap.size ≤ w24.heap.size := Nat.le_trans hz23 hc24.size
                have HE24 := hid ho24
                clear ho24 hg24 hv24 hc24
                refine hK _ _ (fun _ => HSS.out _ HB24.out) ?_
                clear hK K
                (apply wpPlan3_val; (case ho => rfl); (case hst => rfl); (case hw => rfl); (case hv => intro w' hS; go_simp; first | done | rfl); intro K hK; go_simp; refine hK _ ?_; clear hK K)
                (apply wpPlan3_val; (case ho => rfl); (case hst => rfl); (case hw => rfl); (case hv => intro w' hS; go_simp; first | done | rfl); intro K hK; go_simp; refine hK _ ?_; clear hK K)
                refine wpPlan3_nil ?_
                simp only [Qn]
                go_wp2_with fail
                go_roundw
                case rel => exact ⟨i + 1, m + 1, es2 ++ [(k, u)], p22, c22, p24, c24, by first | rfl | (congr 1), by first | rfl | simp, by first | rfl | simp, hlt, hml, by omega, HIN, hid (by rw [HKV.out.1]; exact HO24.out), hid (by rw [HKV.out.2]; exact HE24.out), HN24, HB24⟩
                case measure => simp [intOf]; omega
              · refine effect_list rfl rfl (fun K hK => ?_)
                refine wpList_step (fun K2 hK2 => ?_)
                go_simp
                refine hK2 _ _ ?_
                clear hK2 K2
                simp only [wpList]
                obtain ⟨b25, hb25⟩ : ∃ b, w21.heap.size = b := ⟨_, rfl⟩
                obtain ⟨w25, hw25⟩ : ∃ x, w21.alloc (.cells #[.string (B u)] TSt) = x := ⟨_, rfl⟩
                have hal25 : Below w21.heap.size w21 w25 := by rw [← hw25]; exact (Below.refl _ _).alloc (Nat.le_refl _) _
                have HQ25 : Hid (Blk w25 b25 [.string (B u)] TSt) := hid (by rw [← hw25, ← hb25]; exact heap_alloc_new _ _)
                have F25 := hid (show Value.ownBlock (.slice pa m ca) ≠ some b25 from fun h => by have := (own_lt HA21.out _ h).2; omega)
                rw [hw25, hb25]
                have HQ21x25 := hid (HQ21.out.chg (Chg.new hal25 NoFp) (fun h => h))
                have HA25 := hid (own_new HA21.out hal25)
                have HV25 := hid (own_new HV21.out hal25)
                have HB25 := hid (HB21.out.trans (hal25.mono hz21))
                have hz25 : w.heap.size ≤ w25.heap.size := Nat.le_trans hz21 hal25.size
                clear hal25 hw25 hb25
                refine hK _ _ (fun _ => HSS.out _ HB25.out) ?_
                clear hK K
                refine wpPlan3_list rfl rfl rfl (fun K hK => ?_)
                refine wpList_append_rd rfl _ _ TSs rfl w.heap.size TSt _ 1 16 Try.underlying33 infoSt rfl (by decide) _ m _ rfl HA25.out _ 1 [.string (B k)] rfl (rd_val HQ21x25.out) (by simp [Value.oneCell']) (by simp only [maxLen]; omega) (by omega) hz25 ?_
                intro p26 c26 w26 ho26 hg26 hv26
                have hc26 := Chg.grown hg26
                simp only [wpList]
                have HQ25x26 := hid (HQ25.out.chg hc26 F25.out)
                have HO26 := hid (own_chg HV25.out hc26 (fun g h1 h2 => HNE.out.symm g h1 h2))
                have HN26 := hid (neB_next HNE.out.symm (fun g h1 => (own_lt HV25.out g h1).2) hv26)
                have HB26 := hid (HB25.out.trans (hc26.below (B := w.heap.size) (fun g hg => (own_lt HA25.out g hg).1) hz25))
                have hz26 : w.heap.size ≤ w26.heap.size := Nat.le_trans hz25 hc26.size
                have HE26 := hid ho26
                clear ho26 hg26 hv26 hc26
                refine hK _ _ (fun _ => HSS.out _ HB26.out) ?_
                clear hK K
                refine wpPlan3_list rfl rfl rfl (fun K hK => ?_)
                refine wpList_append_rd rfl _ _ TSs rfl w.heap.size TSt _ 1 16 Try.underlying33 infoSt rfl (by decide) _ m _ rfl HO26.out _ 1 [.string (B u)] rfl (rd_val HQ25x26.out) (by simp [Value.oneCell']) (by simp only [maxLen]; omega) (by omega) hz26 ?_
                intro p27 c27 w27 ho27 hg27 hv27
                have hc27 := Chg.grown hg27
                simp only [wpList]
                have HO27 := hid (own_chg HE26.out hc27 (fun g h1 h2 => HN26.out.symm g h1 h2))
                have HN27 := hid (neB_next HN26.out.symm (fun g h1 => (own_lt HE26.out g h1).2) hv27)
                have HB27 := hid (HB26.out.trans (hc27.below (B := w.heap.size) (fun g hg => (own_lt HO26.out g hg).1) hz26))
                have hz27 : w.heap.size ≤ w27.heap.size := Nat.le_trans hz26 hc27.size
                have HE27 := hid ho27
                clear ho27 hg27 hv27 hc27
                refine hK _ _ (fun _ => HSS.out _ HB27.out) ?_
                clear hK K
                (apply wpPlan3_val; (case ho => rfl); (case hst => rfl); (case hw => rfl); (case hv => intro w' hS; go_simp; first | done | rfl); intro K hK; go_simp; refine hK _ ?_; clear hK K)
                (apply wpPlan3_val; (case ho => rfl); (case hst => rfl); (case hw => rfl); (case hv => intro w' hS; go_simp; first | done | rfl); intro K hK; go_simp; refine hK _ ?_; clear hK K)
                refine wpPlan3_nil ?_
                simp only [Qn]
                go_wp2_with fail
                go_roundw
                case rel => exact ⟨i + 1, m + 1, es2 ++ [(k, u)], p26, c26, p27, c27, by first | rfl | (congr 1), by first | rfl | simp, by first | rfl | simp, hlt, hml, by omega, HIN, hid (by rw [HKV.out.1]; exact HO27.out), hid (by rw [HKV.out.2]; exact HE27.out), HN27, HB27⟩
                case measure => simp [intOf]; omega
            · refine effect_list rfl rfl (fun K hK => ?_)
              refine wpList_step (fun K2 hK2 => ?_)
              go_simp
              refine hK2 _ _ ?_
              clear hK2 K2
              simp only [wpList]
              obtain ⟨b28, hb28⟩ : ∃ b, wz.heap.size = b := ⟨_, rfl⟩
              obtain ⟨w28, hw28⟩ : ∃ x, wz.alloc (.cells #[.string (B u)] TSt) = x := ⟨_, rfl⟩
              have hal28 : Below wz.heap.size wz w28 := by rw [← hw28]; exact (Below.refl _ _).alloc (Nat.le_refl _) _
              have HQ28 : Hid (Blk w28 b28 [.string (B u)] TSt) := hid (by rw [← hw28, ← hb28]; exact heap_alloc_new _ _)
              have F28 := hid (show Value.ownBlock (.slice pa m ca) ≠ some b28 from fun h => by have := (own_lt HRKz.out _ h).2; omega)
              rw [hw28, hb28]
              have HA28 := hid (own_new HRKz.out hal28)
              have HV28 := hid (own_new HRVz.out hal28)
              have HB28 := hid (HBz.out.trans (hal28.mono hzz))
              have hz28 : w.heap.size ≤ w28.heap.size := Nat.le_trans hzz hal28.size
              clear hal28 hw28 hb28
              refine hK _ _ (fun _ => HSS.out _ HB28.out) ?_
              clear hK K
              refine wpPlan3_list rfl rfl rfl (fun K hK => ?_)
              refine wpList_step (fun K2 hK2 => ?_)
              go_simp
              refine hK2 _ _ ?_
              clear hK2 K2
              simp only [wpList]
              obtain ⟨b29, hb29⟩ : ∃ b, w28.heap.size = b := ⟨_, rfl⟩
              obtain ⟨w29, hw29⟩ : ∃ x, w28.alloc (.cells #[.string (B k)] TSt) = x := ⟨_, rfl⟩
              have hal29 : Below w28.heap.size w28 w29 := by rw [← hw29]; exact (Below.refl _ _).alloc (Nat.le_refl _) _
              have HQ29 : Hid (Blk w29 b29 [.string (B k)] TSt) := hid (by rw [← hw29, ← hb29]; exact heap_alloc_new _ _)
              have F29 := hid (show Value.ownBlock (.slice pa m ca) ≠ some b29 from fun h => by have := (own_lt HA28.out _ h).2; omega)
              rw [hw29, hb29]
              have HQ28x29 := hid (HQ28.out.chg (Chg.new hal29 NoFp) (fun h => h))
              have HA29 := hid (own_new HA28.out hal29)
              have HV29 := hid (own_new HV28.out hal29)
              have HB29 := hid (HB28.out.trans (hal29.mono hz28))
              have hz29 : w.heap.size ≤ w29.heap.size := Nat.le_trans hz28 hal29.size
              clear hal29 hw29 hb29
              refine hK _ _ (fun _ => HSS.out _ HB29.out) ?_
              clear hK K
              refine wpPlan3_list rfl rfl rfl (fun K hK => ?_)
              refine wpList_append_rd rfl _ _ TSs rfl w.heap.size TSt _ 1 16 Try.underlying33 infoSt rfl (by decide) _ m _ rfl HA29.out _ 1 [.string (B k)] rfl (rd_val HQ29.out) (by simp [Value.oneCell']) (by simp only [maxLen]; omega) (by omega) hz29 ?_
              intro p30 c30 w30 ho30 hg30 hv30
              have hc30 := Chg.grown hg30
              simp only [wpList]
              have HQ28x29x30 := hid (HQ28x29.out.chg hc30 F28.out)
              have HO30 := hid (own_chg HV29.out hc30 (fun g h1 h2 => HNE.out.symm g h1 h2))
              have HN30 := hid (neB_next HNE.out.symm (fun g h1 => (own_lt HV29.out g h1).2) hv30)
              have HB30 := hid (HB29.out.trans (hc30.below (B := w.heap.size) (fun g hg => (own_lt HA29.out g hg).1) hz29))
              have hz30 : w.heap.size ≤ w30.heap.size := Nat.le_trans hz29 hc30.size
              have HE30 := hid ho30
              clear ho30 hg30 hv30 hc30
              refine hK _ _ (fun _ => HSS.out _ HB30.out) ?_
              clear hK K
              refine wpPlan3_list rfl rfl rfl (fun K hK => ?_)
              refine wpList_append_rd rfl _ _ TSs rfl w.heap.size TSt _ 1 16 Try.underlying33 infoSt rfl (by decide) _ m _ rfl HO30.out _ 1 [.string (B u)] rfl (rd_val HQ28x29x30.out) (by simp [Value.oneCell']) (by simp only [maxLen]; omega) (by omega) hz30 ?_
              intro p31 c31 w31 ho31 hg31 hv31
              have hc31 := Chg.grown hg31
              simp only [wpList]
              have HO31 := hid (own_chg HE30.out hc31 (fun g h1 h2 => HN30.out.symm g h1 h2))
              have HN31 := hid (neB_next HN30.out.symm (fun g h1 => (own_lt HE30.out g h1).2) hv31)
              have HB31 := hid (HB30.out.trans (hc31.below (B := w.heap.size) (fun g hg => (own_lt HO30.out g hg).1) hz30))
              have hz31 : w.heap.size ≤ w31.heap.size := Nat.le_trans hz30 hc31.size
              have HE31 := hid ho31
              clear ho31 hg31 hv31 hc31
              refine hK _ _ (fun _ => HSS.out _ HB31.out) ?_
              clear hK K
              (apply wpPlan3_val; (case ho => rfl); (case hst => rfl); (case hw => rfl); (case hv => intro w' hS; go_simp; first | done | rfl); intro K hK; go_simp; refine hK _ ?_; clear hK K)
              (apply wpPlan3_val; (case ho => rfl); (case hst => rfl); (case hw => rfl); (case hv => intro w' hS; go_simp; first | done | rfl); intro K hK; go_simp; refine hK _ ?_; clear hK K)
              refine wpPlan3_nil ?_
              simp only [Qn]
              go_wp2_with fail
              go_roundw
              case rel => exact ⟨i + 1, m + 1, es2 ++ [(k, u)], p30, c30, p31, c31, by first | rfl | (congr 1), by first | rfl | simp, by first | rfl | simp, hlt, hml, by omega, HIN, hid (by rw [HKV.out.1]; exact HO31.out), hid (by rw [HKV.out.2]; exact HE31.out), HN31, HB31⟩
              case measure => simp [intOf]; omega
          case false =>
            cases hkt : ltB k to
            case false =>
              have HIN := hid (HSKIP.out (by simp [inR, hkt]; intro _; simpa using hto))
              go_wp2_with fail
              go_roundw
              case rel => exact ⟨i + 1, m, es2, pa, ca, pe, ce, by first | rfl | (congr 1), rfl, rfl, hlt, hmm, by omega, HIN, HRK, HRV, HNE, HB⟩
              case measure => simp [intOf]; omega
            case true =>
              have HIN := hid (HTAKE.out (by simp [inR, hfr, hkt]))
              go_wp2_with fail
              obtain ⟨wz, hwz⟩ : ∃ x, wr.drew = x := ⟨_, rfl⟩
              have hbz : Below wr.heap.size wr wz := by rw [← hwz]; exact below_drewN (Below.refl _ _) 1
              have HRKz := hid (own_new HRK.out hbz)
              have HRVz := hid (own_new HRV.out hbz)
              have HBz := hid (HB.out.trans (hbz.mono hzr))
              have hzz : w.heap.size ≤ wz.heap.size := Nat.le_trans hzr hbz.size
              clear hbz x0 x1 f0 f1 hck2
              refine wp_region_plan3 (fun w' => Blk w' gm [.slice (some ⟨gk, 0, none⟩) n ck, .slice (some ⟨gv, 0, none⟩) n cv] TM ∧ w'.cell? ⟨gk, i, none⟩ = some (.string (B k)) ∧ w'.cell? ⟨gv, i, none⟩ = some (.string (B u))) (fun j => !([8, 9, 18, 19].contains j)) (fun j => [4, 7, 14, 17].contains j) (fun _ => false)
                (.cons 0 (.cons 1 (.cons 2 (.cons 3 (.cons 4 (.cons 5 (.cons 6 (.cons 7 (.cons 10 (.cons 11 (.cons 12 (.cons 13 (.cons 14 (.cons 15 (.cons 16 (.cons 17 (.fork 8 18 (.fork 9 18 (.cons 18 (.cons 19 (.cons 20 (.cons 21 .nil)))) (.cons 9 (.cons 19 (.cons 20 (.cons 21 .nil))))) (.cons 8 (.cons 9 (.cons 19 (.cons 20 (.cons 21 .nil)))))))))))))))))))))) (by kernel_rfl) (by kernel_rfl) rfl (by kernel_rfl) (by kernel_rfl) (by rw [hwz]; exact HSS.out _ HBz.out) ?_
              iterate 16 (apply wpPlan3_val; (case ho => rfl); (case hst => rfl); (case hw => rfl); (case hv => intro w' hS; (try (have hS := hS rfl; obtain ⟨x0, x1, _, _⟩ := mp_cells hS.1; have x2 := hS.2.1; have x3 := hS.2.2)); go_simp; first | done | rfl); intro K hK; go_simp; refine hK _ ?_; clear hK K)
              rw [hwz]
              clear hwz
              refine ⟨?_, ?_⟩
              · refine effect_list rfl rfl (fun K hK => ?_)
                refine wpList_step (fun K2 hK2 => ?_)
                go_simp
                refine hK2 _ _ ?_
                clear hK2 K2
                simp only [wpList]
                obtain ⟨b32, hb32⟩ : ∃ b, wz.heap.size = b := ⟨_, rfl⟩
                obtain ⟨w32, hw32⟩ : ∃ x, wz.alloc (.cells #[.string (B k)] TSt) = x := ⟨_, rfl⟩
                have hal32 : Below wz.heap.size wz w32 := by rw [← hw32]; exact (Below.refl _ _).alloc (Nat.le_refl _) _
                have HQ32 : Hid (Blk w32 b32 [.string (B k)] TSt) := hid (by rw [← hw32, ← hb32]; exact heap_alloc_new _ _)
                have F32 := hid (show Value.ownBlock (.slice pa m ca) ≠ some b32 from fun h => by have := (own_lt HRKz.out _ h).2; omega)
                rw [hw32, hb32]
                have HA32 := hid (own_new HRKz.out hal32)
                have HV32 := hid (own_new HRVz.out hal32)
                have HB32 := hid (HBz.out.trans (hal32.mono hzz))
                have hz32 : w.heap.size ≤ w32.heap.size := Nat.le_trans hzz hal32.size
                clear hal32 hw32 hb32
                refine hK _ _ (fun _ => HSS.out _ HB32.out) ?_
                clear hK K
                refine ⟨?_, ?_⟩
                · refine effect_list rfl rfl (fun K hK => ?_)
                  refine wpList_append_rd rfl _ _ TSs rfl w.heap.size TSt _ 1 16 Try.underlying33 infoSt rfl (by decide) _ m _ rfl HA32.out _ 1 [.string (B k)] rfl (rd_val HQ32.out) (by simp [Value.oneCell']) (by simp only [maxLen]; omega) (by omega) hz32 ?_
                  intro p33 c33 w33 ho33 hg33 hv33
                  have hc33 := Chg.grown hg33
                  simp only [wpList]
                  have HO33 := hid (own_chg HV32.out hc33 (fun g h1 h2 => HNE.out.symm g h1 h2))
                  have HN33 := hid (neB_next HNE.out.symm (fun g h1 => (own_lt HV32.out g h1).2) hv33)
                  have HB33 := hid (HB32.out.trans (hc33.below (B := w.heap.size) (fun g hg => (own_lt HA32.out g hg).1) hz32))
                  have hz33 : w.heap.size ≤ w33.heap.size := Nat.le_trans hz32 hc33.size
                  have HE33 := hid ho33
                  clear ho33 hg33 hv33 hc33
                  refine hK _ _ (fun _ => HSS.out _ HB33.out) ?_
                  clear hK K
                  refine wpPlan3_list rfl rfl rfl (fun K hK => ?_)
                  refine wpList_step (fun K2 hK2 => ?_)
                  go_simp
                  refine hK2 _ _ ?_
                  clear hK2 K2
                  simp only [wpList]
                  obtain ⟨b34, hb34⟩ : ∃ b, w33.heap.size = b := ⟨_, rfl⟩
                  obtain ⟨w34, hw34⟩ : ∃ x, w33.alloc (.cells #[.string (B u)] TSt) = x := ⟨_, rfl⟩
                  have hal34 : Below w33.heap.size w33 w34 := by rw [← hw34]; exact (Below.refl _ _).alloc (Nat.le_refl _) _
                  have HQ34 : Hid (Blk w34 b34 [.string (B u)] TSt) := hid (by rw [← hw34, ← hb34]; exact heap_alloc_new _ _)
                  have F34 := hid (show Value.ownBlock (.slice p33 (m + 1) c33) ≠ some b34 from fun h => by have := (own_lt HE33.out _ h).2; omega)
                  rw [hw34, hb34]
                  have HA34 := hid (own_new HE33.out hal34)
                  have HV34 := hid (own_new HO33.out hal34)
                  have HB34 := hid (HB33.out.trans (hal34.mono hz33))
                  have hz34 : w.heap.size ≤ w34.heap.size := Nat.le_trans hz33 hal34.size
                  clear hal34 hw34 hb34
                  refine hK _ _ (fun _ => HSS.out _ HB34.out) ?_
                  clear hK K
                  refine wpPlan3_list rfl rfl rfl (fun K hK => ?_)
                  refine wpList_append_rd rfl _ _ TSs rfl w.heap.size TSt _ 1 16 Try.underlying33 infoSt rfl (by decide) _ m _ rfl HV34.out _ 1 [.string (B u)] rfl (rd_val HQ34.out) (by simp [Value.oneCell']) (by simp only [maxLen]; omega) (by omega) hz34 ?_
                  intro p35 c35 w35 ho35 hg35 hv35
                  have hc35 := Chg.grown hg35
                  simp only [wpList]
                  have HO35 := hid (own_chg HA34.out hc35 (fun g h1 h2 => HN33.out.symm g h1 h2))
                  have HN35 := hid (neB_next HN33.out.symm (fun g h1 => (own_lt HA34.out g h1).2) hv35)
                  have HB35 := hid (HB34.out.trans (hc35.below (B := w.heap.size) (fun g hg => (own_lt HV34.out g hg).1) hz34))
                  have hz35 : w.heap.size ≤ w35.heap.size := Nat.le_trans hz34 hc35.size
                  have HE35 := hid ho35
                  clear ho35 hg35 hv35 hc35
                  refine hK _ _ (fun _ => HSS.out _ HB35.out) ?_
                  clear hK K
                  (apply wpPlan3_val; (case ho => rfl); (case hst => rfl); (case hw => rfl); (case hv => intro w' hS; go_simp; first | done | rfl); intro K hK; go_simp; refine hK _ ?_; clear hK K)
                  (apply wpPlan3_val; (case ho => rfl); (case hst => rfl); (case hw => rfl); (case hv => intro w' hS; go_simp; first | done | rfl); intro K hK; go_simp; refine hK _ ?_; clear hK K)
                  refine wpPlan3_nil ?_
                  simp only [Qn]
                  go_wp2_with fail
                  go_roundw
                  case rel => exact ⟨i + 1, m + 1, es2 ++ [(k, u)], p33, c33, p35, c35, by first | rfl | (congr 1), by first | rfl | simp, by first | rfl | simp, hlt, hml, by omega, HIN, hid (by rw [HKV.out.1]; exact HO35.out), hid (by rw [HKV.out.2]; exact HE35.out), HN35, HB35⟩
                  case measure => simp [intOf]; omega
                · refine effect_list rfl rfl (fun K hK => ?_)
                  refine wpList_step (fun K2 hK2 => ?_)
                  go_simp
                  refine hK2 _ _ ?_
                  clear hK2 K2
                  simp only [wpList]
                  obtain ⟨b36, hb36⟩ : ∃ b, w32.heap.size = b := ⟨_, rfl⟩
                  obtain ⟨w36, hw36⟩ : ∃ x, w32.alloc (.cells #[.string (B u)] TSt) = x := ⟨_, rfl⟩
                  have hal36 : Below w32.heap.size w32 w36 := by rw [← hw36]; exact (Below.refl _ _).alloc (Nat.le_refl _) _
                  have HQ36 : Hid (Blk w36 b36 [.string (B u)] TSt) := hid (by rw [← hw36, ← hb36]; exact heap_alloc_new _ _)
                  have F36 := hid (show Value.ownBlock (.slice pa m ca) ≠ some b36 from fun h => by have := (own_lt HA32.out _ h).2; omega)
                  rw [hw36, hb36]
                  have HQ32x36 := hid (HQ32.out.chg (Chg.new hal36 NoFp) (fun h => h))
                  have HA36 := hid (own_new HA32.out hal36)
                  have HV36 := hid (own_new HV32.out hal36)
                  have HB36 := hid (HB32.out.trans (hal36.mono hz32))
                  have hz36 : w.heap.size ≤ w36.heap.size := Nat.le_trans hz32 hal36.size
                  clear hal36 hw36 hb36
                  refine hK _ _ (fun _ => HSS.out _ HB36.out) ?_
                  clear hK K
                  refine wpPlan3_list rfl rfl rfl (fun K hK => ?_)
                  refine wpList_append_rd rfl _ _ TSs rfl w.heap.size TSt _ 1 16 Try.underlying33 infoSt rfl (by decide) _ m _ rfl HA36.out _ 1 [.string (B k)] rfl (rd_val HQ32x36.out) (by simp [Value.oneCell']) (by simp only [maxLen]; omega) (by omega) hz36 ?_
                  intro p37 c37 w37 ho37 hg37 hv37
                  have hc37 := Chg.grown hg37
                  simp only [wpList]
                  have HQ36x37 := hid (HQ36.out.chg hc37 F36.out)
                  have HO37 := hid (own_chg HV36.out hc37 (fun g h1 h2 => HNE.out.symm g h1 h2))
                  have HN37 := hid (neB_next HNE.out.symm (fun g h1 => (own_lt HV36.out g h1).2) hv37)
                  have HB37 := hid (HB36.out.trans (hc37.below (B := w.heap.size) (fun g hg => (own_lt HA36.out g hg).1) hz36))
                  have hz37 : w.heap.size ≤ w37.heap.size := Nat.le_trans hz36 hc37.size
                  have HE37 := hid ho37
                  clear ho37 hg37 hv37 hc37
                  refine hK _ _ (fun _ => HSS.out _ HB37.out) ?_
                  clear hK K
                  refine wpPlan3_list rfl rfl rfl (fun K hK => ?_)
                  refine wpList_append_rd rfl _ _ TSs rfl w.heap.size TSt _ 1 16 Try.underlying33 infoSt rfl (by decide) _ m _ rfl HO37.out _ 1 [.string (B u)] rfl (rd_val HQ36x37.out) (by simp [Value.oneCell']) (by simp only [maxLen]; omega) (by omega) hz37 ?_
                  intro p38 c38 w38 ho38 hg38 hv38
                  have hc38 := Chg.grown hg38
                  simp only [wpList]
                  have HO38 := hid (own_chg HE37.out hc38 (fun g h1 h2 => HN37.out.symm g h1 h2))
                  have HN38 := hid (neB_next HN37.out.symm (fun g h1 => (own_lt HE37.out g h1).2) hv38)
                  have HB38 := hid (HB37.out.trans (hc38.below (B := w.heap.size) (fun g hg => (own_lt HO37.out g hg).1) hz37))
                  have hz38 : w.heap.size ≤ w38.heap.size := Nat.le_trans hz37 hc38.size
                  have HE38 := hid ho38
                  clear ho38 hg38 hv38 hc38
                  refine hK _ _ (fun _ => HSS.out _ HB38.out) ?_
                  clear hK K
                  (apply wpPlan3_val; (case ho => rfl); (case hst => rfl); (case hw => rfl); (case hv => intro w' hS; go_simp; first | done | rfl); intro K hK; go_simp; refine hK _ ?_; clear hK K)
                  (apply wpPlan3_val; (case ho => rfl); (case hst => rfl); (case hw => rfl); (case hv => intro w' hS; go_simp; first | done | rfl); intro K hK; go_simp; refine hK _ ?_; clear hK K)
                  refine wpPlan3_nil ?_
                  simp only [Qn]
                  go_wp2_with fail
                  go_roundw
                  case rel => exact ⟨i + 1, m + 1, es2 ++ [(k, u)], p37, c37, p38, c38, by first | rfl | (congr 1), by first | rfl | simp, by first | rfl | simp, hlt, hml, by omega, HIN, hid (by rw [HKV.out.1]; exact HO38.out), hid (by rw [HKV.out.2]; exact HE38.out), HN38, HB38⟩
                  case measure => simp [intOf]; omega
              · refine effect_list rfl rfl (fun K hK => ?_)
                refine wpList_step (fun K2 hK2 => ?_)
                go_simp
                refine hK2 _ _ ?_
                clear hK2 K2
                simp only [wpList]
                obtain ⟨b39, hb39⟩ : ∃ b, wz.heap.size = b := ⟨_, rfl⟩
                obtain ⟨w39, hw39⟩ : ∃ x, wz.alloc (.cells #[.string (B u)] TSt) = x := ⟨_, rfl⟩
                have hal39 : Below wz.heap.size wz w39 := by rw [← hw39]; exact (Below.refl _ _).alloc (Nat.le_refl _) _
                have HQ39 : Hid (Blk w39 b39 [.string (B u)] TSt) := hid (by rw [← hw39, ← hb39]; exact heap_alloc_new _ _)
                have F39 := hid (show Value.ownBlock (.slice pa m ca) ≠ some b39 from fun h => by have := (own_lt HRKz.out _ h).2; omega)
                rw [hw39, hb39]
                have HA39 := hid (own_new HRKz.out hal39)
                have HV39 := hid (own_new HRVz.out hal39)
                have HB39 := hid (HBz.out.trans (hal39.mono hzz))
                have hz39 : w.heap.size ≤ w39.heap.size := Nat.le_trans hzz hal39.size
                clear hal39 hw39 hb39
                refine hK _ _ (fun _ => HSS.out _ HB39.out) ?_
                clear hK K
                refine wpPlan3_list rfl rfl rfl (fun K hK => ?_)
                refine wpList_step (fun K2 hK2 => ?_)
                go_simp
                refine hK2 _ _ ?_
                clear hK2 K2
                simp only [wpList]
                obtain ⟨b40, hb40⟩ : ∃ b, w39.heap.size = b := ⟨_, rfl⟩
                obtain ⟨w40, hw40⟩ : ∃ x, w39.alloc (.cells #[.string (B k)] TSt) = x := ⟨_, rfl⟩
                have hal40 : Below w39.heap.size w39 w40 := by rw [← hw40]; exact (Below.refl _ _).alloc (Nat.le_refl _) _
                have HQ40 : Hid (Blk w40 b40 [.string (B k)] TSt) := hid (by rw [← hw40, ← hb40]; exact heap_alloc_new _ _)
                have F40 := hid (show Value.ownBlock (.slice pa m ca) ≠ some b40 from fun h => by have := (own_lt HA39.out _ h).2; omega)
                rw [hw40, hb40]
                have HQ39x40 := hid (HQ39.out.chg (Chg.new hal40 NoFp) (fun h => h))
                have HA40 := hid (own_new HA39.out hal40)
                have HV40 := hid (own_new HV39.out hal40)
                have HB40 := hid (HB39.out.trans (hal40.mono hz39))
                have hz40 : w.heap.size ≤ w40.heap.size := Nat.le_trans hz39 hal40.size
                clear hal40 hw40 hb40
                refine hK _ _ (fun _ => HSS.out _ HB40.out) ?_
                clear hK K
                refine wpPlan3_list rfl rfl rfl (fun K hK => ?_)
                refine wpList_append_rd rfl _ _ TSs rfl w.heap.size TSt _ 1 16 Try.underlying33 infoSt rfl (by decide) _ m _ rfl HA40.out _ 1 [.string (B k)] rfl (rd_val HQ40.out) (by simp [Value.oneCell']) (by simp only [maxLen]; omega) (by omega) hz40 ?_
                intro p41 c41 w41 ho41 hg41 hv41
                have hc41 := Chg.grown hg41
                simp only [wpList]
                have HQ39x40x41 := hid (HQ39x40.out.chg hc41 F39.out)
                have HO41 := hid (own_chg HV40.out hc41 (fun g h1 h2 => HNE.out.symm g h1 h2))
                have HN41 := hid (neB_next HNE.out.symm (fun g h1 => (own_lt HV40.out g h1).2) hv41)
                have HB41 := hid (HB40.out.trans (hc41.below (B := w.heap.size) (fun g hg => (own_lt HA40.out g hg).1) hz40))
                have hz41 : w.heap.size ≤ w41.heap.size := Nat.le_trans hz40 hc41.size
                have HE41 := hid ho41
                clear ho41 hg41 hv41 hc41
                refine hK _ _ (fun _ => HSS.out _ HB41.out) ?_
                clear hK K
                refine wpPlan3_list rfl rfl rfl (fun K hK => ?_)
                refine wpList_append_rd rfl _ _ TSs rfl w.heap.size TSt _ 1 16 Try.underlying33 infoSt rfl (by decide) _ m _ rfl HO41.out _ 1 [.string (B u)] rfl (rd_val HQ39x40x41.out) (by simp [Value.oneCell']) (by simp only [maxLen]; omega) (by omega) hz41 ?_
                intro p42 c42 w42 ho42 hg42 hv42
                have hc42 := Chg.grown hg42
                simp only [wpList]
                have HO42 := hid (own_chg HE41.out hc42 (fun g h1 h2 => HN41.out.symm g h1 h2))
                have HN42 := hid (neB_next HN41.out.symm (fun g h1 => (own_lt HE41.out g h1).2) hv42)
                have HB42 := hid (HB41.out.trans (hc42.below (B := w.heap.size) (fun g hg => (own_lt HO41.out g hg).1) hz41))
                have hz42 : w.heap.size ≤ w42.heap.size := Nat.le_trans hz41 hc42.size
                have HE42 := hid ho42
                clear ho42 hg42 hv42 hc42
                refine hK _ _ (fun _ => HSS.out _ HB42.out) ?_
                clear hK K
                (apply wpPlan3_val; (case ho => rfl); (case hst => rfl); (case hw => rfl); (case hv => intro w' hS; go_simp; first | done | rfl); intro K hK; go_simp; refine hK _ ?_; clear hK K)
                (apply wpPlan3_val; (case ho => rfl); (case hst => rfl); (case hw => rfl); (case hv => intro w' hS; go_simp; first | done | rfl); intro K hK; go_simp; refine hK _ ?_; clear hK K)
                refine wpPlan3_nil ?_
                simp only [Qn]
                go_wp2_with fail
                go_roundw
                case rel => exact ⟨i + 1, m + 1, es2 ++ [(k, u)], p41, c41, p42, c42, by first | rfl | (congr 1), by first | rfl | simp, by first | rfl | simp, hlt, hml, by omega, HIN, hid (by rw [HKV.out.1]; exact HO42.out), hid (by rw [HKV.out.2]; exact HE42.out), HN42, HB42⟩
                case measure => simp [intOf]; omega
      · have hml2 : ¬ (m : Int) < (most : Int) := by omega
        obtain rfl : m = most := by omega
        go_wp2_with fail
        go_ret3
        obtain ⟨R, hR⟩ := rngM_pre es fr to i
        have hX : (rngM es fr to).take m = es2 := by rw [hR, ← HES.out.1, List.take_left' HES.out.2]
        exact ⟨pa, ca, pe, ce, es2, hX.symm, by rw [HES.out.2]; rfl, by rw [HES.out.2]; exact HRK.out, by rw [HES.out.2]; exact HRV.out, HB.out⟩
    · have hlt2 : ¬ (i : Int) < (n : Int) := by omega
      obtain rfl : i = n := by omega
      go_wp2_with fail
      go_ret3
      have h1 := HES.out.1
      rw [List.take_of_length_le (l := es) (by rw [HNN.out]; exact Nat.le_refl _)] at h1
      have hX : (rngM es fr to).take most = es2 := by rw [← h1, List.take_of_length_le (by rw [HES.out.2]; exact hmm)]
      exact ⟨pa, ca, pe, ce, es2, hX.symm, by rw [HES.out.2]; rfl, by rw [HES.out.2]; exact HRK.out, by rw [HES.out.2]; exact HRV.out, HB.out⟩
end Go.Proofs.Ytdilkgcoecipjaa

namespace Go.Proofs.Ytdilkgcoecipjaa
open Go.RowKit Go.ChangeShapes
set_option linter.unusedVariables false

def IsTexts (w : World) (a : Option Addr) (len cap : Nat) (zs : List Tx) : Prop := zs.length = len ∧ Rd w 1 (.slice a len cap) len (tv zs) ∧ (∀ z ∈ zs, z.length ≤ maxLen) ∧ len ≤ maxLen

set_option maxRecDepth 100000 in
theorem texts_of_trod {H : Type} {enc : TypeId × Value → H} {w : World} {base : Nat} {held : Bool} {fuel : Nat} {a : Option Addr} {len cap : Nat} {x : DataW H × List MemPlace}
    (h : DataW.trod enc Try.prog w base (fun _ => true) held fuel 33 (Value.slice a len cap).cells.toList = some x) : ∃ zs, IsTexts w a len cap zs := by
  rcases open_strings Try.underlying33 Try.underlying9 (by kernel_rfl) h with ⟨h0, _⟩ | ⟨b, l, c, ss, h0, _, hl, hm, hmm, _, hcell, hsz⟩
  · simp [Value.cells] at h0
    obtain ⟨rfl, rfl, rfl⟩ := h0
    exact ⟨[], rfl, Rd.nil _ _, by simp, Nat.zero_le _⟩
  · simp [Value.cells] at h0
    obtain ⟨rfl, rfl, rfl⟩ := h0
    have hmc : ss.length = cap := by simpa using hmm
    have hlen : ((ss.take len).map (fun s : ByteArray => s.data.toList)).length = len := by simp; omega
    refine ⟨(ss.take len).map (fun s => s.data.toList), hlen, ⟨by rw [tv_len, hlen, Nat.mul_one], some b, cap, rfl, hl, hm, (fun h => by cases h), fun a ha j u hu => ?_⟩, fun z hz => ?_, Nat.le_trans hl hm⟩
    · cases ha
      have hj : j < len := by
        have := (List.getElem?_eq_some_iff.1 hu).1
        rw [tv_len, hlen] at this
        exact this
      have hjs : j < ss.length := by omega
      have hu2 : u = .string (B (ss[j]'hjs).data.toList) := by
        have h1 : (tv ((ss.take len).map (fun s : ByteArray => s.data.toList)))[j]? = some (.string (B (ss[j]'hjs).data.toList)) := by
          refine tv_get ?_
          rw [List.getElem?_map, List.getElem?_take, if_pos hj, List.getElem?_eq_getElem hjs]
          rfl
        rw [h1] at hu
        exact (Option.some.inj hu).symm
      have hc := hcell j hjs
      have hs : b.spot = none := spot_of_cell (hcell 0 (by omega))
      refine ⟨hs, ?_⟩
      rw [Addr.add_off b hs] at hc
      rw [hc, hu2, ← B_of, List.getD_eq_getElem?_getD, List.getElem?_eq_getElem hjs]
      rfl
    · obtain ⟨s, hs, rfl⟩ := List.mem_map.1 hz
      have := hsz s (List.mem_of_mem_take hs)
      rw [← B_size, ← B_of]
      exact this
end Go.Proofs.Ytdilkgcoecipjaa
