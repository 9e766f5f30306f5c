/- rows of solutions: Clone, own. -/
import Derived.Test.YtkhdadbbgfjcgaaSolK
namespace Go.Proofs.Ytkhdadbbgfjcgaa
open Go.RowKit
set_option linter.unusedVariables false

abbrev TS : TypeId := 24
def sv (G : List Rw) : List Value := G.map (·.1)
def ss (G : List Rw) : List Sl := G.map (·.2)
theorem sv_len (G : List Rw) : (sv G).length = G.length := by simp [sv]
theorem ss_len (G : List Rw) : (ss G).length = G.length := by simp [ss]
theorem SolAt.one {w : World} {v : Value} {s : Sl} (h : SolAt w v s) : v.oneCell' = true := by
  obtain ⟨p, c, rfl⟩ := h.shape; rfl

/-- a row of solutions that may be read -/
def SolsAt (w : World) (v : Value) (L : List Sl) : Prop := ∃ G : List Rw, ss G = L ∧ Rd w 1 v L.length (sv G) ∧ ∀ x ∈ G, SolAt w x.1 x.2
/-- of the call's own -/
def OwnL (B0 : Nat) (w : World) (v : Value) (L : List Sl) : Prop := ∃ G : List Rw, ss G = L ∧ w.ownsRow B0 TL 1 v L.length (sv G) ∧ ∀ x ∈ G, SolAt w x.1 x.2
theorem OwnL.at {B0 : Nat} {w : World} {v : Value} {L : List Sl} (h : OwnL B0 w v L) : SolsAt w v L := by
  obtain ⟨G, h1, h2, h3⟩ := h
  exact ⟨G, h1, Rd.of_own h2, h3⟩
theorem SolsAt.nil (w : World) : SolsAt w (.slice none 0 0) [] := ⟨[], rfl, Rd.nil w 1, fun x h => by cases h⟩
theorem OwnL.nil (B0 : Nat) (w : World) : OwnL B0 w (.slice none 0 0) [] := ⟨[], rfl, World.ownsRow_nil w B0 TL 1, fun x h => by cases h⟩
theorem SolsAt.new {w w' : World} {v : Value} {L : List Sl} (h : SolsAt w v L) (hb : Below w.heap.size w w') : SolsAt w' v L := by
  obtain ⟨G, h1, h2, h3⟩ := h
  exact ⟨G, h1, h2.new hb, fun x hx => (h3 x hx).new hb⟩
theorem OwnL.new {B0 : Nat} {w w' : World} {v : Value} {L : List Sl} (h : OwnL B0 w v L) (hb : Below w.heap.size w w') : OwnL B0 w' v L := by
  obtain ⟨G, h1, h2, h3⟩ := h
  exact ⟨G, h1, own_new h2 hb, fun x hx => (h3 x hx).new hb⟩
theorem OwnL.base {B0 B1 : Nat} {w : World} {v : Value} {L : List Sl} (h : OwnL B1 w v L) (hb : B0 ≤ B1) : OwnL B0 w v L := by
  obtain ⟨G, h1, h2, h3⟩ := h
  refine ⟨G, h1, ⟨h2.1, ?_⟩, h3⟩
  rcases h2.2 with h2 | ⟨g, cap, cur, h1, h2, h3⟩
  · exact .inl h2
  · exact .inr ⟨g, cap, cur, h1, Nat.le_trans hb h2, h3⟩
theorem SolsAt.drew {w : World} {v : Value} {L : List Sl} (h : SolsAt w v L) : SolsAt w.drew v L := h
theorem OwnL.drew {B0 : Nat} {w : World} {v : Value} {L : List Sl} (h : OwnL B0 w v L) : OwnL B0 w.drew v L := h
theorem SolsAt.shape {w : World} {v : Value} {L : List Sl} (h : SolsAt w v L) : ∃ p c, v = .slice p L.length c := by
  obtain ⟨G, _, ⟨_, p, cap, rfl, _⟩, _⟩ := h
  exact ⟨p, cap, rfl⟩
theorem SolsAt.shape2 {w : World} {v : Value} {L : List Sl} (h : SolsAt w v L) : ∃ p c, v = .slice p L.length c ∧ L.length ≤ c ∧ c ≤ maxLen ∧ (p = none → c = 0) := by
  obtain ⟨G, _, ⟨_, p, cap, rfl, h1, h2, h3, _⟩, _⟩ := h
  exact ⟨p, cap, rfl, h1, h2, h3⟩
theorem OwnL.shape {B0 : Nat} {w : World} {v : Value} {L : List Sl} (h : OwnL B0 w v L) : ∃ p c, v = .slice p L.length c := h.at.shape
/-- one of them -/
theorem SolsAt.get {w : World} {p : Option Addr} {n c : Nat} {L : List Sl} (h : SolsAt w (.slice p n c) L) {i : Nat} (hi : i < L.length) :
    ∃ b off v, p = some ⟨b, off, none⟩ ∧ w.cell? ⟨b, off + i, none⟩ = some v ∧ SolAt w v L[i] := by
  obtain ⟨G, rfl, h2, h3⟩ := h
  rw [ss_len] at hi
  obtain ⟨b, off, rfl, hc⟩ := Rd.addr h2 (by rw [ss_len]; omega)
  refine ⟨b, off, G[i].1, rfl, hc i _ (by simp [sv, hi]), ?_⟩
  have := h3 G[i] (List.getElem_mem hi)
  simpa [ss] using this
/-- kept, where blocks of pairs are, and its own block is -/
theorem SolsAt.kp2 {w w' : World} {fp : Nat → Prop} {v : Value} {L : List Sl} (h : SolsAt w v L) (hc : Chg fp w w') (hk : Kp w w') (hf : ∀ g, fp g → v.ownBlock ≠ some g) : SolsAt w' v L := by
  obtain ⟨G, h1, h2, h3⟩ := h
  exact ⟨G, h1, h2.chg hc (fun _ g hg _ hp => hf g hp hg), fun x hx => (h3 x hx).kp hk⟩
theorem SolsAt.lt {w : World} {v : Value} {L : List Sl} (h : SolsAt w v L) : ∀ g, L.length ≠ 0 → v.ownBlock = some g → g < w.heap.size := by
  obtain ⟨G, h1, h2, h3⟩ := h
  intro g h0 hg
  exact h2.lt (by omega) (by decide) g hg
/-- kept by what lies above -/
theorem SolsAt.above {w w' : World} {B0 : Nat} {v : Value} {L : List Sl} (h : SolsAt w v L) (hb : Below B0 w w') (hk : Kp w w') (hlt : ∀ g, L.length ≠ 0 → v.ownBlock = some g → g < B0) : SolsAt w' v L := by
  obtain ⟨G, h1, h2, h3⟩ := h
  refine ⟨G, h1, ?_, fun x hx => (h3 x hx).kp hk⟩
  refine h2.chg (fp := fun k => B0 ≤ k) (Chg.of_below hb (fun k _ h => h)) (fun h0 g hg _ hp => ?_)
  have := hlt g (by omega) hg
  omega

section
variable {P : Program}
/-- a row of one's own in the world behind an append; blocks of pairs are kept -/
theorem own_kp {B0 : Nat} {w w' : World} {e : TypeId} {size n : Nat} {v : Value} {xs : List Value} (he : e ≠ TP) (h : w.ownsRow B0 e size v n xs) (hg : w.grownBy w' v.ownBlock) : Kp w w' :=
  Kp.chg (Chg.grown hg) (fun k hk => by
    rcases h.2 with ⟨rfl, _⟩ | ⟨g, cap, cur, rfl, hbg, hb, _⟩
    · cases hk
    · cases hk; exact ⟨_, _, _, hb, he⟩)
theorem own_below {B0 : Nat} {w w' : World} {e : TypeId} {size n : Nat} {v : Value} {xs : List Value} (h : w.ownsRow B0 e size v n xs) (hg : w.grownBy w' v.ownBlock) (hB : B0 ≤ w.heap.size) : Below B0 w w' :=
  (Below.refl B0 w).grown hg hB (by
    intro k hk
    rcases h.2 with ⟨rfl, _⟩ | ⟨g, cap, cur, rfl, hbg, hb, _⟩
    · cases hk
    · cases hk; exact hbg)
end
theorem OwnL.app {B0 : Nat} {w w' : World} {v v' : Value} {L : List Sl} {x : Rw} {G : List Rw} (hG : ss G = L) (h3 : ∀ x ∈ G, SolAt w x.1 x.2) (hk : Kp w w') (ho : w'.ownsRow B0 TL 1 v' (L.length + 1) (sv G ++ [x.1])) (hx : SolAt w' x.1 x.2) : OwnL B0 w' v' (L ++ [x.2]) := by
  subst hG
  refine ⟨G ++ [x], by simp [ss], ?_, fun y hy => ?_⟩
  · have : sv (G ++ [x]) = sv G ++ [x.1] := by simp [sv]
    rw [this, List.length_append]; exact ho
  · rcases List.mem_append.1 hy with hy | hy
    · exact (h3 y hy).kp hk
    · simp at hy; subst hy; exact hx
theorem sv_one {w : World} {G : List Rw} (h : ∀ x ∈ G, SolAt w x.1 x.2) : ∀ u ∈ sv G, u.oneCell' = true := by
  intro u hu
  obtain ⟨x, hx, rfl⟩ := List.mem_map.1 hu
  exact (h x hx).one

set_option maxRecDepth 100000 in
theorem cloneL_any (L : List Sl) (v : Value) (w : World) (hs : SolsAt w v L) (hl : L.length ≤ 100000) :
    Calls Try.prog 54 #[v] w fun e w' => ∃ p c, e = .returned (.slice p L.length c) ∧ OwnL w.heap.size w' (.slice p L.length c) L ∧ Below w.heap.size w w' := by
  obtain ⟨p, c, rfl, hnc, hcm, hp0⟩ := hs.shape2
  have HS := hid hs
  cases p with
  | none =>
    have h0 : L.length = 0 ∧ c = 0 := by have := hp0 rfl; omega
    obtain ⟨hl0, rfl⟩ := h0
    have hs0 : L = [] := List.eq_nil_of_length_eq_zero hl0
    subst hs0
    clear hs hp0
    have heq := Lib.run_eql_slice_nil (P := Try.prog) w TS _ none 0 0 0 0 Try.underlying24
    go_enter Try.func54, Try.ntmps54
    go_wp2_with fail
    go_ret
    exact ⟨none, 0, rfl, OwnL.nil _ _, Below.refl _ _⟩
  | some a =>
    obtain ⟨G, hG, hrd, hsa⟩ := HS.out
    have HG := hid (And.intro hG (And.intro hrd hsa))
    clear hs hp0 hG hrd hsa hnc hcm
    have heq := Lib.run_eql_slice_nil (P := Try.prog) w TS _ (some a) L.length c 0 0 Try.underlying24
    go_enter Try.func54, Try.ntmps54
    go_wp2_with (at_builtin; refine wp_keep ?_)
    refine hid ?_
    refine wpList_append_rd rfl _ _ TS rfl w.heap.size TL _ 1 24 Try.underlying24 infoL rfl (by decide) _ 0 [] rfl (own_empty w TL 1 _ (Nat.le_refl _)) _ L.length (sv G) rfl (HG.out.2.1.new ((Below.refl _ _).alloc (Nat.le_refl _) _)) (sv_one HG.out.2.2) (by simp only [maxLen]; omega) (by omega) (by simp) ?_
    intro p2 c2 w2 ho2 hg2 _
    have hb : Below w.heap.size w w2 := ((Below.refl w.heap.size w).alloc (Nat.le_refl _) _).grown hg2 (by simp) (by intro k hk; cases hk; exact Nat.le_refl _)
    rw [Nat.zero_add] at ho2 ⊢
    rw [List.nil_append] at ho2
    have HO := hid ho2
    have HB := hid hb
    clear ho2 hb hg2
    go_wp2_with fail
    go_ret
    exact ⟨p2, c2, rfl, ⟨G, HG.out.1, HO.out, fun x hx => (HG.out.2.2 x hx).new HB.out⟩, HB.out⟩

/-- one place of a row of one's own is written -/
theorem OwnL.put {B0 : Nat} {w : World} {g n cap : Nat} {L : List Sl} {v' : Value} {i : Nat} (h : OwnL B0 w (.slice (some ⟨g, 0, none⟩) n cap) L) (hi : i < L.length) (hv : SolAt w v' L[i]) :
    w.frozen? ⟨g, i, none⟩ = false ∧ B0 ≤ g ∧ OwnL B0 (w.setCell ⟨g, i, none⟩ v') (.slice (some ⟨g, 0, none⟩) n cap) L := by
  obtain ⟨G, rfl, h2, h3⟩ := h
  have hn : n = (ss G).length := by
    rcases h2.2 with ⟨h, _⟩ | ⟨g', cap', cur, h, _⟩
    · cases h
    · cases h; rfl
  subst hn
  rw [ss_len] at hi
  obtain ⟨hl, h2 | ⟨g', cap', cur, he, hB, hg, hnc, hcm, hcs, ht⟩⟩ := h2
  · cases h2.1
  · cases he
    have hb : Blk w g cur.toList TL := by simpa using hg
    have hset := hb.set i v'
    have hk : Kp w (w.setCell ⟨g, i, none⟩ v') := Kp.chg (Chg.setCell (fp := fun k => k = g) w (a := ⟨g, i, none⟩) rfl v') (fun k hk => by subst hk; exact ⟨_, _, _, hg, by decide⟩)
    refine ⟨hb.frozen i, hB, G.set i (v', G[i].2), ?_, ⟨?_, .inr ⟨g, cap, _, rfl, hB, hset, hnc, hcm, ?_, ?_⟩⟩, fun x hx => ?_⟩
    · rw [ss, List.map_set]
      have e : G[i].2 = (ss G)[i]'(by rw [ss_len]; exact hi) := by simp [ss]
      show (ss G).set i G[i].2 = ss G
      rw [e, List.set_getElem_self]
    · simp [sv, ss_len]
    · simpa using hcs
    · rw [ss_len, Nat.mul_one] at ht ⊢
      rw [List.toList_toArray, List.take_set, ht]
      simp [sv, List.map_set]
    · rcases List.mem_or_eq_of_mem_set hx with hx | rfl
      · exact (h3 x hx).kp hk
      · have := hv
        simp only [ss, List.getElem_map] at this
        exact this.kp hk

set_option maxRecDepth 100000 in
set_option maxHeartbeats 2000000 in
theorem own_any (L : List Sl) (v : Value) (w : World) (hs : SolsAt w v L) (hl : L.length ≤ 100000) (hsl : ∀ s ∈ L, s.length ≤ 1000) :
    Calls Try.prog 33 #[v] w fun e w' => ∃ p c, e = .returned (.slice p L.length c) ∧ OwnL w.heap.size w' (.slice p L.length c) L ∧ Below w.heap.size w w' := by
  have HS := hid hs
  have HL := hid hsl
  clear hs hsl
  go_enter Try.func33, Try.ntmps33
  go_wp2_with fail
  refine (cloneL_any L v w HS.out hl).mono ?_; rintro e1 w1 ⟨p, c, rfl, ho1, hb1⟩
  have HO := hid ho1
  have HB := hid hb1
  clear ho1 hb1
  go_wp2_with fail
  go_loopw [10] (fun vi wr => ∃ i : Nat, vi = .int .i64 i ∧ i ≤ L.length ∧ Hid (OwnL w.heap.size wr (.slice p L.length c) L) ∧ Hid (Below w.heap.size w wr)) (fun vi _ => L.length + 1 - (intOf vi).toNat)
  case atStart => exact ⟨0, rfl, Nat.zero_le _, HO, HB⟩
  case round =>
    obtain ⟨i, rfl, hi, HO, HB⟩ := hrel
    have hsz := HB.out.size
    by_cases hlt : i < L.length
    · have hlt2 : (i : Int) < (L.length : Int) := by omega
      obtain ⟨b, off, u, rfl, hcell, hsu⟩ := HO.out.at.get hlt
      obtain rfl : off = 0 := by
        obtain ⟨G, _, ⟨_, h | ⟨g, cap, cur, h, _⟩⟩, _⟩ := HO.out
        · cases h.1
        · cases h; rfl
      rw [Nat.zero_add] at hcell
      have HSU := hid hsu
      obtain ⟨pu, cu, rfl⟩ := hsu.shape
      have hll := HL.out _ (List.getElem_mem hlt)
      clear hsu
      go_wp2_with fail
      refine (cloneP_any L[i] _ wr HSU.out hll).mono ?_; rintro e2 w2 ⟨p2, c2, rfl, ho2, hb2⟩
      have ho := (HO.out.new hb2).put (v' := .slice p2 L[i].length c2) hlt ho2.sol
      have hfz := ho.1
      have hcl : w2.cell? ⟨b, i, none⟩ = some (.slice pu L[i].length cu) := (hb2.cell (p := ⟨b, i, none⟩) (World.block_lt_of_cell? wr _ hcell)).trans hcell
      have HO2 := hid ho.2.2
      have HB2 := hid ((HB.out.trans (hb2.mono hsz)).setCell (p := ⟨b, i, none⟩) ho.2.1 (.slice p2 L[i].length c2))
      clear ho hb2 ho2 hcell
      go_wp2_with fail
      go_roundw
      case rel => exact ⟨i + 1, by go_num, by omega, HO2, HB2⟩
      case measure => simp [intOf]; omega
    · have hlt2 : ¬ (i : Int) < (L.length : Int) := by omega
      go_wp2_with fail
      refine (cloneL_any L _ wr HO.out.at hl).mono ?_; rintro e2 w2 ⟨p2, c2, rfl, ho2, hb2⟩
      have HO2 := hid (ho2.base hsz)
      have HB2 := hid (HB.out.trans (hb2.mono hsz))
      clear ho2 hb2
      go_wp2_with fail
      go_ret
      exact ⟨p2, c2, rfl, HO2.out, HB2.out⟩
end Go.Proofs.Ytkhdadbbgfjcgaa
