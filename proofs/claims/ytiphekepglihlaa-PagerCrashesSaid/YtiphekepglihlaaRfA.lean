/- package triadref4: the document's pages: their cells; New, now, Get, Root. package triadref4: what is seen: Get, Root, Free. package triadref4: copied, Begin. package triadref4: Begin, SetRoot, Commit, Abort. package triadref4: New, Put, Drop. package triadref4: Put, Drop. -/
import Derived.Test.YtiphekepglihlaaPagX
import Derived.Maps.StringElems
namespace Go.Proofs.Ytiphekepglihlaa
open Go.RowKit Go.Maps
set_option linter.unusedVariables false

/-- a map of texts reads as these pages -/
def Rp (D : DataW Unit) (B : Int → Option (List UInt8)) : Prop := ∀ k : Int, match B k with
  | none => Maps.has D (.int .i64 k) = false
  | some l => Maps.has D (.int .i64 k) = true ∧ ∀ z, D.atKey (.int .i64 k) z = .lit (.string l)
theorem Rp.nil : Rp (.map []) (fun _ => none) := fun k => rfl
theorem Rp.put {D : DataW Unit} {B : Int → Option (List UInt8)} (h : Rp D B) (hD : IsMap D) (k : Int) (l : List UInt8) : Rp (D.put (.int .i64 k) (.lit (.string l))) (fun q => if q = k then some l else B q) := fun q => by
  by_cases e : q = k
  · subst e
    simp only [if_true]
    exact ⟨Maps.has_put_same hD (by simp [WideAt.IsKeyLit]) _, fun z => Maps.atKey_put_same hD (by simp [WideAt.IsKeyLit]) _ _⟩
  · have hne : (Lit.int .i64 q) ≠ Lit.int .i64 k := fun h => e (by cases h; rfl)
    simp only [if_neg e]
    have h1 := h q
    split at h1
    · exact (Maps.has_put_other hne _).trans h1
    · exact ⟨(Maps.has_put_other hne _).trans h1.1, fun z => (Maps.atKey_put_other hne _ _).trans (h1.2 z)⟩
theorem Rp.del {D : DataW Unit} {B : Int → Option (List UInt8)} (h : Rp D B) (k : Int) : Rp (D.del (.int .i64 k)) (fun q => if q = k then none else B q) := fun q => by
  by_cases e : q = k
  · subst e
    simp only [if_true]
    exact Maps.has_del_same
  · have hne : (Lit.int .i64 q) ≠ Lit.int .i64 k := fun h => e (by cases h; rfl)
    simp only [if_neg e]
    have h1 := h q
    split at h1
    · exact (Maps.has_del_other hne).trans h1
    · exact ⟨(Maps.has_del_other hne).trans h1.1, fun z => (Maps.atKey_del_other hne _).trans (h1.2 z)⟩

structure AOk (n N : Nat) (A : AS) : Prop where
  n0 : 403 ≤ n
  n1 : n ≤ 3000
  ev0 : 0 ≤ A.ever
  ev1 : A.ever < (n : Int) - 401
  bd : ∀ k l, A.B k = some l → 1 ≤ k ∧ k ≤ A.ever ∧ l.length = 504
  gbd : ∀ g ∈ A.gone, 1 ≤ g ∧ g ≤ A.ever
  few : A.gone.length ≤ N
theorem AOk.zero {n N : Nat} (h0 : 403 ≤ n) (h1 : n ≤ 3000) : AOk n N as0 := ⟨h0, h1, by simp [as0], by simp only [as0]; omega, fun _ _ h => (by cases h), fun _ h => (by cases h), Nat.zero_le _⟩
theorem AOk.mono {n N M : Nat} {A : AS} (h : AOk n N A) (hm : N ≤ M) : AOk n M A := ⟨h.n0, h.n1, h.ev0, h.ev1, h.bd, h.gbd, Nat.le_trans h.few hm⟩

/-- a state's map and its row of numbers -/
structure RfSt (w : World) (b : Nat) (gv : Value) (N : Nat) (D : DataW Unit) (A : AS) : Prop where
  own : w.ownsMap Try.prog 3 (plainElem (H := Unit) Try.prog 9) b N D
  rep : Rp D A.B
  row : w.ownsRow 0 3 1 gv A.gone.length (A.gone.reverse.map (Value.int .i64))
def stBl (b : Nat) (gv : Value) : Nat → Prop := fun k => k = b ∨ gv.ownBlock = some k
theorem RfSt.lt {w : World} {b : Nat} {gv : Value} {N : Nat} {D : DataW Unit} {A : AS} (h : RfSt w b gv N D A) : ∀ k, stBl b gv k → k < w.heap.size := fun k hk => by
  rcases hk with rfl | hk
  · exact h.own.lt
  · exact (h.row.lt k hk).2
theorem RfSt.chg {w w' : World} {fq : Nat → Prop} {b : Nat} {gv : Value} {N : Nat} {D : DataW Unit} {A : AS} (h : RfSt w b gv N D A) (hc : Chg fq w w') (hn : ∀ k, stBl b gv k → ¬ fq k) : RfSt w' b gv N D A := by
  refine ⟨?_, h.rep, own_chg h.row hc (fun g hg => hn g (.inr hg))⟩
  obtain ⟨es, cl, h8, h9⟩ := h.own
  exact ⟨es, cl, hc.heap h8 (hn b (.inl rfl)), h9⟩
theorem RfSt.mono {w : World} {b : Nat} {gv : Value} {N M : Nat} {D : DataW Unit} {A : AS} (h : RfSt w b gv N D A) (hm : N ≤ M) : RfSt w b gv M D A := ⟨h.own.mono hm, h.rep, h.row⟩
theorem RfSt.ne {w : World} {b : Nat} {gv : Value} {N : Nat} {D : DataW Unit} {A : AS} (h : RfSt w b gv N D A) : gv.ownBlock ≠ some b := fun e => by
  obtain ⟨es, cl, h8, _⟩ := h.own
  rcases h.row.2 with ⟨h5, _⟩ | ⟨g, cap, cur, h5, _, hg, _⟩
  · rw [h5] at e; cases e
  · rw [h5] at e
    simp [Value.ownBlock] at e
    rw [e, h8] at hg
    cases hg

/-- without a transaction -/
def XCl (w : World) (x : Nat) (G : Nat → Prop) (n : Nat) (S : AS) (N : Nat) : Prop :=
  ∃ (b : Nat) (gv : Value) (D : DataW Unit) (c5 c6 c7 c8 : Value), Blk w x [.int .i64 ((n : Int) - 401), .map (some b), gv, .int .i64 (S.ever + 1), .int .i64 S.root, c5, c6, c7, c8, .bool false] 68 ∧ RfSt w b gv N D S ∧ AOk n N S ∧
    ¬ stBl b gv x ∧ G x ∧ (∀ k, stBl b gv k → G k) ∧ ∀ k, G k → k < w.heap.size
/-- within one -/
def XOp (w : World) (x : Nat) (G : Nat → Prop) (n : Nat) (S T : AS) (N : Nat) : Prop :=
  ∃ (b : Nat) (gv : Value) (D : DataW Unit) (b2 : Nat) (gv2 : Value) (D2 : DataW Unit), Blk w x [.int .i64 ((n : Int) - 401), .map (some b), gv, .int .i64 (S.ever + 1), .int .i64 S.root, .map (some b2), gv2, .int .i64 (T.ever + 1), .int .i64 T.root, .bool true] 68 ∧
    RfSt w b gv N D S ∧ RfSt w b2 gv2 N D2 T ∧ AOk n N S ∧ AOk n N T ∧ ¬ stBl b gv x ∧ ¬ stBl b2 gv2 x ∧ (∀ k, stBl b2 gv2 k → ¬ stBl b gv k) ∧ G x ∧ (∀ k, stBl b gv k → G k) ∧ (∀ k, stBl b2 gv2 k → G k) ∧ ∀ k, G k → k < w.heap.size
theorem XCl.chg {w w' : World} {x : Nat} {G fq : Nat → Prop} {n : Nat} {S : AS} {N : Nat} (h : XCl w x G n S N) (hc : Chg fq w w') (hn : ∀ k, G k → ¬ fq k) : XCl w' x G n S N := by
  obtain ⟨b, gv, D, c5, c6, c7, c8, h1, h2, h3, h4, h5, h6, h7⟩ := h
  exact ⟨b, gv, D, c5, c6, c7, c8, h1.chg hc (hn x h5), h2.chg hc (fun k hk => hn k (h6 k hk)), h3, h4, h5, h6, fun k hk => Nat.lt_of_lt_of_le (h7 k hk) hc.size⟩
theorem XOp.chg {w w' : World} {x : Nat} {G fq : Nat → Prop} {n : Nat} {S T : AS} {N : Nat} (h : XOp w x G n S T N) (hc : Chg fq w w') (hn : ∀ k, G k → ¬ fq k) : XOp w' x G n S T N := by
  obtain ⟨b, gv, D, b2, gv2, D2, h1, h2, h3, h4, h5, h6, h7, h8, h9, h10, h11, h12⟩ := h
  exact ⟨b, gv, D, b2, gv2, D2, h1.chg hc (hn x h9), h2.chg hc (fun k hk => hn k (h10 k hk)), h3.chg hc (fun k hk => hn k (h11 k hk)), h4, h5, h6, h7, h8, h9, h10, h11, fun k hk => Nat.lt_of_lt_of_le (h12 k hk) hc.size⟩
theorem XCl.lt {w : World} {x : Nat} {G : Nat → Prop} {n : Nat} {S : AS} {N : Nat} (h : XCl w x G n S N) : ∀ k, G k → k < w.heap.size := by
  obtain ⟨b, gv, D, c5, c6, c7, c8, h1, h2, h3, h4, h5, h6, h7⟩ := h
  exact h7
theorem XOp.lt {w : World} {x : Nat} {G : Nat → Prop} {n : Nat} {S T : AS} {N : Nat} (h : XOp w x G n S T N) : ∀ k, G k → k < w.heap.size := by
  obtain ⟨b, gv, D, b2, gv2, D2, h1, h2, h3, h4, h5, h6, h7, h8, h9, h10, h11, h12⟩ := h
  exact h12

theorem XCl.cells {w : World} {x : Nat} {G : Nat → Prop} {n : Nat} {S : AS} {N : Nat} (h : XCl w x G n S N) : w.cell? ⟨x, 0, none⟩ = some (.int .i64 ((n : Int) - 401)) ∧ w.cell? ⟨x, 9, none⟩ = some (.bool false) ∧ w.frozen? ⟨x, 9, none⟩ = false ∧ G x := by
  obtain ⟨b, gv, D, c5, c6, c7, c8, h1, h2, h3, h4, h5, h6, h7⟩ := h
  exact ⟨h1.cell 0, h1.cell 9, h1.frozen 9, h5⟩
theorem XOp.cells {w : World} {x : Nat} {G : Nat → Prop} {n : Nat} {S T : AS} {N : Nat} (h : XOp w x G n S T N) : w.cell? ⟨x, 0, none⟩ = some (.int .i64 ((n : Int) - 401)) ∧ w.cell? ⟨x, 9, none⟩ = some (.bool true) ∧ w.frozen? ⟨x, 9, none⟩ = false ∧ G x := by
  obtain ⟨b, gv, D, b2, gv2, D2, h1, h2, h3, h4, h5, h6, h7, h8, h9, h10, h11, h12⟩ := h
  exact ⟨h1.cell 0, h1.cell 9, h1.frozen 9, h9⟩

theorem stInfo : (Try.prog.info? 66).map (·.size) = some 4 := by kernel_rfl
theorem stInfo0 : (Try.prog.info? 66).map (·.zero) = some (some (.agg [Value.map none, .slice none 0 0, .int .i64 0, .int .i64 0].toArray)) := by kernel_rfl

set_option maxRecDepth 100000 in
theorem now_off (w : World) (x o : Nat) (op : Bool) (cur : List Value) (T : TypeId) (vs : List Value) (h : Blk w x cur T) (h9 : w.cell? ⟨x, 9, none⟩ = some (.bool op)) (ho : o = if op then 5 else 1) (hl : o + 4 ≤ cur.length) (hv : (cur.drop o).take 4 = vs) (h1 : ∀ u ∈ vs, u.oneCell' = true) :
    Calls Try.prog 82 #[.pointer (some ⟨x, 0, none⟩)] w fun e w' => e = .returned (.agg vs.toArray) ∧ Below w.heap.size w w' := by
  have H := hid h
  have hx := h.lt
  have h4 : vs.length = 4 := by rw [← hv]; simp; omega
  clear h
  cases op
  case' false => obtain rfl : o = 1 := ho
  case' true => obtain rfl : o = 5 := ho
  all_goals
    go_enter Try.func82, Try.ntmps82
    go_wp2_with (first
      | (refine wpList_alloc_z rfl 66 rfl _ stInfo0 ?_; intro w1 hw1 hb1 hl1; have W1 := hid hw1; have B1 := hid hb1; have H1 := hid (H.out.chg (Chg.new hb1 (fun _ => False)) (fun h => h)); have h91 : w1.cell? ⟨x, 9, none⟩ = some (.bool _) := (hb1.cell (p := ⟨x, 9, none⟩) hx).trans h9; clear hw1 hb1)
      | (refine wpList_load_arr rfl 66 _ rfl _ Try.underlying66 rfl 4 stInfo x _ _ _ rfl H1.out hl vs hv ?_)
      | (refine wpList_store_arr rfl 66 _ _ rfl 4 stInfo w.heap.size 0 66 _ vs rfl rfl W1.out h4 (by simp) h1 ?_; intro w2 hw2 hc2 hs2; have W2 := hid hw2; have C2 := hid hc2; clear hw2 hc2))
    have B2 := hid (B1.out.trans (C2.out.below (fun k hk => by rw [hk]; exact Nat.le_refl _) (Nat.le_of_lt hl1)))
    rw [splice_all _ _ (by rw [h4]; rfl)] at W2
    refine bodyPost_ret (results_cell_row rfl _ _ w.heap.size 66 vs.toArray _ _ rfl W2.out Try.underlying66 rfl (by rw [List.size_toArray, h4]; exact stInfo)) rfl ?_
    exact ⟨rfl, B2.out⟩

theorem XCl.now {w : World} {x : Nat} {G : Nat → Prop} {n : Nat} {S : AS} {N : Nat} (h : XCl w x G n S N) : ∃ b gv D, RfSt w b gv N D S ∧ AOk n N S ∧
    ∀ m, Calls Try.prog 82 #[.pointer (some ⟨x, 0, none⟩)] (w.drewN m) fun e w' => e = .returned (.agg #[.map (some b), gv, .int .i64 (S.ever + 1), .int .i64 S.root]) ∧ Below w.heap.size (w.drewN m) w' := by
  obtain ⟨b, gv, D, c5, c6, c7, c8, h1, h2, h3, h4, h5, h6, h7⟩ := h
  obtain ⟨p, c, rfl⟩ := own_shape h2.row
  exact ⟨b, _, D, h2, h3, fun m => now_off (w.drewN m) x 1 false _ _ _ (h1.chg (Chg.drewN (fun _ => False) _ m) (fun h => h)) (h1.cell 9) rfl (by simp) rfl (fun u hu => by simp at hu; rcases hu with rfl | rfl | rfl | rfl <;> rfl)⟩
theorem XOp.now {w : World} {x : Nat} {G : Nat → Prop} {n : Nat} {S T : AS} {N : Nat} (h : XOp w x G n S T N) : ∃ b gv D, RfSt w b gv N D T ∧ AOk n N T ∧
    ∀ m, Calls Try.prog 82 #[.pointer (some ⟨x, 0, none⟩)] (w.drewN m) fun e w' => e = .returned (.agg #[.map (some b), gv, .int .i64 (T.ever + 1), .int .i64 T.root]) ∧ Below w.heap.size (w.drewN m) w' := by
  obtain ⟨b, gv, D, b2, gv2, D2, h1, h2, h3, h4, h5, h6, h7, h8, h9, h10, h11, h12⟩ := h
  obtain ⟨p, c, rfl⟩ := own_shape h3.row
  exact ⟨b2, _, D2, h3, h5, fun m => now_off (w.drewN m) x 5 true _ _ _ (h1.chg (Chg.drewN (fun _ => False) _ m) (fun h => h)) (h1.cell 9) rfl (by simp) rfl (fun u hu => by simp at hu; rcases hu with rfl | rfl | rfl | rfl <;> rfl)⟩

set_option maxRecDepth 100000 in
theorem rfNew_any (w : World) (n : Nat) (h0 : 403 ≤ n) (h1 : n ≤ 3000) :
    Calls Try.prog 29 #[.int .i64 n] w fun e w' => ∃ x, e = .returned (.pointer (some ⟨x, 0, none⟩)) ∧ XCl w' x (fun k => w.heap.size ≤ k ∧ k < w'.heap.size) n as0 0 ∧ Below w.heap.size w w' := by
  have hlt : ¬ (n : Int) < 403 := by omega
  have hw1 : IntKind.i64.wrap ((n : Int) - 401) = (n : Int) - 401 := i64_small (by omega) (by omega)
  have hmm := @run_makeMap Try.prog
  go_enter Try.func29, Try.ntmps29
  go_wp2_with fail
  go_ret
  have hw2 : Below w.heap.size w (w.alloc (Obj.map #[] 0)) := (Below.refl _ _).alloc (Nat.le_refl _) _
  have hm0 : (w.alloc (Obj.map #[] 0)).heap[w.heap.size]? = some (.map #[] 0) := heap_alloc_new w _
  have hs0 : (w.alloc (Obj.map #[] 0)).heap.size = w.heap.size + 1 := by simp
  generalize w.alloc (Obj.map #[] 0) = w2 at *
  have hb := heap_alloc_new w2 (Obj.cells [Value.int .i64 ((n : Int) - 401), .map (some w.heap.size), .slice none 0 0, .int .i64 1, .int .i64 0, .map none, .slice none 0 0, .int .i64 0, .int .i64 0, .bool false].toArray 68)
  rw [hs0] at hb
  have hm1 : (w2.alloc (Obj.cells [Value.int .i64 ((n : Int) - 401), .map (some w.heap.size), .slice none 0 0, .int .i64 1, .int .i64 0, .map none, .slice none 0 0, .int .i64 0, .int .i64 0, .bool false].toArray 68)).heap[w.heap.size]? = some (.map #[] 0) := (Below.heap_alloc w2 _ _ (by omega)).trans hm0
  refine ⟨w.heap.size + 1, rfl, ⟨w.heap.size, .slice none 0 0, .map [], _, _, _, _, hb, ⟨⟨#[], 0, hm1, ⟨by simp, Go.MapKept.stamped_empty 0, by simp⟩, Nat.le_refl _, rfl⟩, Rp.nil, World.ownsRow_nil _ _ _ _⟩, AOk.zero h0 h1, ?_, ?_, ?_, ?_⟩, hw2.trans ((Below.refl _ _).alloc (by omega) _)⟩
  · rintro (h | h)
    · omega
    · cases h
  · simp; omega
  · rintro k (rfl | h)
    · simp; omega
    · cases h
  · exact fun k hk => hk.2
end Go.Proofs.Ytiphekepglihlaa

namespace Go.Proofs.Ytiphekepglihlaa
open Go.RowKit Go.Maps
set_option linter.unusedVariables false

/-- what is seen -/
def Seen4 (w : World) (x n : Nat) (A : AS) (N : Nat) : Prop :=
  w.cell? ⟨x, 0, none⟩ = some (.int .i64 ((n : Int) - 401)) ∧ AOk n N A ∧ ∃ b gv D, RfSt w b gv N D A ∧
    ∀ m, Calls Try.prog 82 #[.pointer (some ⟨x, 0, none⟩)] (w.drewN m) fun e w' => e = .returned (.agg #[.map (some b), gv, .int .i64 (A.ever + 1), .int .i64 A.root]) ∧ Below w.heap.size (w.drewN m) w'
theorem XCl.seen {w : World} {x : Nat} {G : Nat → Prop} {n : Nat} {S : AS} {N : Nat} (h : XCl w x G n S N) : Seen4 w x n S N := by
  obtain ⟨b, gv, D, h1, h2, h3⟩ := h.now
  exact ⟨h.cells.1, h2, b, gv, D, h1, h3⟩
theorem XOp.seen {w : World} {x : Nat} {G : Nat → Prop} {n : Nat} {S T : AS} {N : Nat} (h : XOp w x G n S T N) : Seen4 w x n T N := by
  obtain ⟨b, gv, D, h1, h2, h3⟩ := h.now
  exact ⟨h.cells.1, h2, b, gv, D, h1, h3⟩

theorem fld0 (a b c d : Value) (w : World) : (Instr.field 66 (.agg #[a, b, c, d]) 0).run Try.prog w = .ok a w := by kernel_rfl
theorem fld3 (a b c d : Value) (w : World) : (Instr.field 66 (.agg #[a, b, c, d]) 3).run Try.prog w = .ok d w := by kernel_rfl
theorem strZero (w : World) : (zeroValue 9).run Try.prog w = .ok (.string ⟨#[]⟩) w := by kernel_rfl
theorem strNil : plainElem (H := Unit) Try.prog 9 (.string ⟨#[]⟩) = some (.lit (.string []), []) := plainElem_string Try.underlying9 (by decide)
theorem got_str {D : DataW Unit} {B : Int → Option (List UInt8)} (h : Rp D B) (k : Int) {v : Value} {ps : List MemPlace} (hv : plainElem (H := Unit) Try.prog 9 v = some (D.atKey (.int .i64 k) (.lit (.string [])), ps)) :
    (Maps.has D (.int .i64 k) = (B k).isSome) ∧ ((B k).isSome = true → v = .string ⟨((B k).getD []).toArray⟩) := by
  have h1 := h k
  rcases e : B k with _ | l
  · rw [e] at h1
    exact ⟨h1, fun h => by cases h⟩
  · rw [e] at h1
    refine ⟨h1.1, fun _ => ?_⟩
    obtain ⟨s, h2, h3, _⟩ := plainElem_string_inv Try.underlying9 hv
    rw [h1.2] at h3
    rw [h2]
    obtain ⟨d⟩ := s
    simp only [Prod.mk.injEq, DataW.lit.injEq, Lit.string.injEq] at h3
    simp [h3.1]

set_option maxRecDepth 100000 in
theorem Seen4.get {w : World} {x n : Nat} {A : AS} {N : Nat} (h : Seen4 w x n A N) (k : Int) (hk : (Lit.int .i64 k).wf = true) :
    Calls Try.prog 64 #[.pointer (some ⟨x, 0, none⟩), .int .i64 k] w fun e w' => e = .returned (.tuple #[.string ⟨(getA A k).1.toArray⟩, .int .i64 (getA A k).2]) ∧ Below w.heap.size w w' := by
  obtain ⟨_, ho, b, gv, D, hs, hn⟩ := h
  have HN := hid (hn 0)
  have HS := hid hs
  have HKEY := hid (show keyOf Try.prog 3 (.int .i64 k) = some (.int .i64 k) from keyOf_int_mk Try.underlying3 hk)
  clear hs hn hk
  unfold getA
  rcases e : A.B k with _ | l
  · have E := hid e
    clear e
    have hf0 := fld0
    go_enter Try.func64, Try.ntmps64
    go_wp2_with fail
    refine HN.out.mono ?_
    rintro e1 w1 ⟨rfl, hb⟩
    have B1 := hid hb
    have S1 := hid (HS.out.chg (Chg.new hb (fun _ => False)) (fun _ _ h => h))
    clear hb
    go_wp2_with (at_lookup; refine wpList_lookup_own_ok _ rfl _ _ 64 rfl 3 9 mapKeyed Try.underlying64 _ (strZero _) (.lit (.string [])) [] strNil b N D rfl S1.out.own _ _ rfl HKEY.out ?_; intro v ps hv; rw [(got_str S1.out.rep k hv).1, E.out]; clear hv)
    go_ret2
    exact ⟨rfl, B1.out⟩
  · have E := hid e
    clear e
    have hf0 := fld0
    go_enter Try.func64, Try.ntmps64
    go_wp2_with fail
    refine HN.out.mono ?_
    rintro e1 w1 ⟨rfl, hb⟩
    have B1 := hid hb
    have S1 := hid (HS.out.chg (Chg.new hb (fun _ => False)) (fun _ _ h => h))
    clear hb
    go_wp2_with (at_lookup; refine wpList_lookup_own_ok _ rfl _ _ 64 rfl 3 9 mapKeyed Try.underlying64 _ (strZero _) (.lit (.string [])) [] strNil b N D rfl S1.out.own _ _ rfl HKEY.out ?_; intro v ps hv; have hg := got_str S1.out.rep k hv; rw [hg.1, hg.2 (by rw [E.out]; rfl), E.out]; clear hv hg)
    go_ret2
    exact ⟨rfl, B1.out⟩

set_option maxRecDepth 100000 in
theorem Seen4.root {w : World} {x n : Nat} {A : AS} {N : Nat} (h : Seen4 w x n A N) :
    Calls Try.prog 62 #[.pointer (some ⟨x, 0, none⟩)] w fun e w' => e = .returned (.int .i64 A.root) ∧ Below w.heap.size w w' := by
  obtain ⟨_, ho, b, gv, D, hs, hn⟩ := h
  have HN := hid (hn 0)
  clear hs hn
  have hf3 := fld3
  go_enter Try.func62, Try.ntmps62
  go_wp2_with fail
  refine HN.out.mono ?_
  rintro e1 w1 ⟨rfl, hb⟩
  have B1 := hid hb
  clear hb
  go_wp2_with fail
  go_ret
  exact ⟨rfl, B1.out⟩

/-- how many are in use, and how many are not -/
theorem count_in (A : AS) : ∀ m : Nat, (((List.range m).map fun i => ((i + 1 : Nat) : Int)).filter fun k => (A.B k).isSome).length + frees A m = m
  | 0 => rfl
  | m + 1 => by
    have ih := count_in A m
    rw [List.range_succ, List.map_append, List.filter_append, List.length_append]
    show _ + (frees A m + if (A.B ((m + 1 : Nat) : Int)).isSome then 0 else 1) = m + 1
    simp only [List.map_cons, List.map_nil]
    by_cases h : (A.B ((m + 1 : Nat) : Int)).isSome = true
    · rw [List.filter_cons_of_pos (by simpa using h), List.filter_nil, if_pos h]
      simp only [List.length_cons, List.length_nil]
      omega
    · rw [List.filter_cons_of_neg (by simpa using h), List.filter_nil, if_neg h]
      simp only [List.length_nil]
      omega
theorem size_frees {w : World} {b N n : Nat} {gv : Value} {D : DataW Unit} {A : AS} (hs : RfSt w b gv N D A) (ho : AOk n N A) : (Maps.size D : Int) + frees A (n - 402) = (n : Int) - 402 := by
  obtain ⟨m1, m2, m3⟩ := mem_intKeys hs.own mapKeyed Try.underlying3
  have hsz : (intKeys D).length = Maps.size D := by
    obtain ⟨es, rfl⟩ := hs.own.isMap
    simp [intKeys, Maps.size]
  have hperm : (intKeys D).length = (((List.range (n - 402)).map fun i => ((i + 1 : Nat) : Int)).filter fun k => (A.B k).isSome).length := by
    refine List.Perm.length_eq ((List.perm_ext_iff_of_nodup m1 ?_).2 fun k => ?_)
    · refine List.Nodup.sublist List.filter_sublist ?_
      refine List.pairwise_map.2 (List.nodup_range.imp fun {a b} hab e => hab ?_)
      omega
    · rw [m2, List.mem_filter, List.mem_map]
      have h1 := hs.rep k
      rcases e : A.B k with _ | l
      · rw [e] at h1
        simp [h1]
      · rw [e] at h1
        have h2 := ho.bd k l e
        have h3 := ho.ev1
        simp only [h1.1, Option.isSome_some, and_true, true_iff]
        exact ⟨(k - 1).toNat, List.mem_range.2 (by omega), by omega⟩
  have h4 := count_in A (n - 402)
  have h5 := ho.n0
  omega

set_option maxRecDepth 100000 in
theorem Seen4.free {w : World} {x n : Nat} {A : AS} {N : Nat} (h : Seen4 w x n A N) :
    Calls Try.prog 63 #[.pointer (some ⟨x, 0, none⟩)] w fun e w' => e = .returned (.int .i64 (frees A (n - 402))) ∧ Below w.heap.size w w' := by
  obtain ⟨hc, ho, b, gv, D, hs, hn⟩ := h
  have HN := hid hn
  have HS := hid hs
  have hsf := size_frees hs ho
  have h0 := ho.n0
  have h1 := ho.n1
  have hfl := frees_le A (n - 402)
  have hx : x < w.heap.size := World.block_lt_of_cell? w ⟨x, 0, none⟩ hc
  have hw1 : IntKind.i64.wrap ((n : Int) - 401 - 1) = (n : Int) - 401 - 1 := i64_small (by omega) (by omega)
  have hw2 : IntKind.i64.wrap ((n : Int) - 401 - 1 - (Maps.size D : Int)) = (frees A (n - 402) : Int) := by rw [i64_small (by omega) (by omega)]; omega
  have hlen := hid (fun (w' : World) (hb : Below w.heap.size w w') => (hs.chg (Chg.new hb (fun _ => False)) (fun _ _ h => h)).own.len Try.underlying64 3)
  clear hs hn hsf ho hfl
  go_enter Try.func63, Try.ntmps63
  go_wp2_with fail
  have hcd : w.drew.cell? ⟨x, 0, none⟩ = some (.int .i64 ((n : Int) - 401)) := hc
  refine wp_region_plan (fun w' => w'.cell? ⟨x, 0, none⟩ = some (.int .i64 ((n : Int) - 401))) (fun j => !([6, 7, 8, 9, 10].contains j)) (fun j => [9, 10].contains j)
    (.of [0, 1, 2, 3, 4, 5, 6, 7, 8, 9, 10]) (by kernel_rfl) (by kernel_rfl) rfl (by kernel_rfl) (by kernel_rfl) hcd ?_
  iterate 6 (apply wpPlan_val; (case ho => rfl); (case hst => rfl); (case hw => rfl); (case hv => intro w' hS; go_simp; first | done | rfl); intro K hK; go_simp; refine hK _ ?_; clear hK K)
  refine wpPlan_list rfl rfl rfl (fun K hK => ?_)
  refine wpList_step (fun K2 hK2 => ?_)
  go_simp
  have hnowd : Calls Try.prog 82 #[.pointer (some ⟨x, 0, none⟩)] w.drew fun e w' => e = .returned (.agg #[.map (some b), gv, .int .i64 (A.ever + 1), .int .i64 A.root]) ∧ Below w.heap.size w.drew w' := HN.out 1
  refine hnowd.mono ?_
  rintro e1 w1 ⟨rfl, hb⟩
  have B1 := hid ((below_drewN (Below.refl _ w) 1).trans hb)
  have hc1 : w1.cell? ⟨x, 0, none⟩ = some (.int .i64 ((n : Int) - 401)) := (hb.cell (p := ⟨x, 0, none⟩) hx).trans hcd
  have hf0 := fld0
  have hl1 := hlen.out w1 B1.out
  clear hb hcd hnowd
  go_simp
  refine hK2 _ _ ?_
  clear hK2 K2
  simp only [wpList]
  refine hK _ _ (fun _ => hc1) ?_
  clear hK K
  iterate 4 (refine wpPlan_list rfl rfl rfl (fun K hK => ?_); refine wpList_step (fun K2 hK2 => ?_); go_simp; refine hK2 _ _ ?_; clear hK2 K2; simp only [wpList]; refine hK _ _ (fun _ => hc1) ?_; clear hK K)
  refine wpPlan_nil ?_
  simp only [Qn]
  go_wp2_with fail
  go_ret
  exact ⟨rfl, B1.out⟩
end Go.Proofs.Ytiphekepglihlaa

namespace Go.Proofs.Ytiphekepglihlaa
open Go.RowKit Go.Maps
set_option linter.unusedVariables false

theorem intInfo4 : (Try.prog.info? 3).map (fun i => (i.zero, i.size, i.bytes)) = some (some (.int .i64 0), 1, 8) := by kernel_rfl
def upTo (B : Int → Option (List UInt8)) (j : Nat) : Int → Option (List UInt8) := fun k => if 1 ≤ k ∧ k ≤ (j : Int) then B k else none
theorem upTo_zero (B : Int → Option (List UInt8)) : upTo B 0 = fun _ => none := by
  funext k
  unfold upTo
  rw [if_neg (by omega)]
theorem upTo_none {B : Int → Option (List UInt8)} {j : Nat} (h : B ((j : Int) + 1) = none) : upTo B (j + 1) = upTo B j := by
  funext k
  unfold upTo
  by_cases e : k = (j : Int) + 1
  · rw [if_pos (by omega), if_neg (by omega), e, h]
  · by_cases e2 : 1 ≤ k ∧ k ≤ (j : Int)
    · rw [if_pos e2, if_pos (by omega)]
    · rw [if_neg e2, if_neg (by omega)]
theorem upTo_some {B : Int → Option (List UInt8)} {j : Nat} {l : List UInt8} (h : B ((j : Int) + 1) = some l) : upTo B (j + 1) = fun q => if q = (j : Int) + 1 then some l else upTo B j q := by
  funext k
  unfold upTo
  by_cases e : k = (j : Int) + 1
  · rw [if_pos (by omega), if_pos e, e, h]
  · rw [if_neg e]
    by_cases e2 : 1 ≤ k ∧ k ≤ (j : Int)
    · rw [if_pos e2, if_pos (by omega)]
    · rw [if_neg e2, if_neg (by omega)]
theorem upTo_all {n N : Nat} {A : AS} (h : AOk n N A) {j : Nat} (hj : (j : Int) = A.ever) : upTo A.B j = A.B := by
  funext k
  unfold upTo
  rcases e : A.B k with _ | l
  · split <;> rfl
  · have := h.bd k l e
    rw [if_pos (by omega)]

set_option maxRecDepth 100000 in
set_option maxHeartbeats 4000000 in
theorem copied_any (w : World) (b : Nat) (gv : Value) (N n : Nat) (D : DataW Unit) (A : AS) (hs : RfSt w b gv N D A) (ho : AOk n N A) (hN : N ≤ 1000000) :
    Calls Try.prog 65 #[.agg #[.map (some b), gv, .int .i64 (A.ever + 1), .int .i64 A.root]] w fun e w' => ∃ b' gv' D', e = .returned (.agg #[.map (some b'), gv', .int .i64 (A.ever + 1), .int .i64 A.root]) ∧
      RfSt w' b' gv' (N + 3000) D' A ∧ Below w.heap.size w w' ∧ w.heap.size ≤ b' ∧ ∀ g, gv'.ownBlock = some g → w.heap.size ≤ g := by
  have HS := hid hs
  have HO := hid ho
  obtain ⟨gp, gc, rfl⟩ := own_shape hs.row
  have hmm := @run_makeMap Try.prog
  have he0 := ho.ev0
  have he1 := ho.ev1
  have hn1 := ho.n1
  have hbx := heap_alloc_new w (Obj.cells [Value.map (some b), .slice gp A.gone.length gc, .int .i64 (A.ever + 1), .int .i64 A.root].toArray 66)
  have hlt0 := hs.lt
  clear hs ho
  go_enter Try.func65, Try.ntmps65
  go_wp2_with fail
  have hB1 : Below w.heap.size w (w.alloc (Obj.cells [Value.map (some b), .slice gp A.gone.length gc, .int .i64 (A.ever + 1), .int .i64 A.root].toArray 66)) := (Below.refl _ _).alloc (Nat.le_refl _) _
  have hz1 : (w.alloc (Obj.cells [Value.map (some b), .slice gp A.gone.length gc, .int .i64 (A.ever + 1), .int .i64 A.root].toArray 66)).heap.size = w.heap.size + 1 := by simp
  change Code.wp _ _ _ _ (((w.alloc (Obj.cells [Value.map (some b), .slice gp A.gone.length gc, .int .i64 (A.ever + 1), .int .i64 A.root].toArray 66)).alloc (Obj.cells [Value.map none, .slice none 0 0, .int .i64 0, .int .i64 0].toArray 66)).alloc (Obj.map #[] 0))
  generalize w.alloc (Obj.cells [Value.map (some b), .slice gp A.gone.length gc, .int .i64 (A.ever + 1), .int .i64 A.root].toArray 66) = w1 at *
  have hr2 := heap_alloc_new w1 (Obj.cells [Value.map none, .slice none 0 0, .int .i64 0, .int .i64 0].toArray 66)
  have hB2 : Below w1.heap.size w1 (w1.alloc (Obj.cells [Value.map none, .slice none 0 0, .int .i64 0, .int .i64 0].toArray 66)) := (Below.refl _ _).alloc (Nat.le_refl _) _
  have hz2 : (w1.alloc (Obj.cells [Value.map none, .slice none 0 0, .int .i64 0, .int .i64 0].toArray 66)).heap.size = w1.heap.size + 1 := by simp
  generalize w1.alloc (Obj.cells [Value.map none, .slice none 0 0, .int .i64 0, .int .i64 0].toArray 66) = w2 at *
  have hm3 := heap_alloc_new w2 (Obj.map #[] 0)
  have hB3 : Below w2.heap.size w2 (w2.alloc (Obj.map #[] 0)) := (Below.refl _ _).alloc (Nat.le_refl _) _
  have hz3 : (w2.alloc (Obj.map #[] 0)).heap.size = w2.heap.size + 1 := by simp
  generalize w2.alloc (Obj.map #[] 0) = w3 at *
  have C2 := Chg.new hB2 (fun _ => False)
  have C3 := Chg.new hB3 (fun _ => False)
  have CW := hid ((Chg.new hB1 (fun k => w.heap.size ≤ k)).trans ((C2.trans C3 (fun _ _ h => h)).mono (fun _ _ h => h.elim) : Chg (fun k => w.heap.size ≤ k) w1 w3) (fun _ _ h => h))
  rw [hz1] at hr2 hB2 hz2
  rw [hz2] at hm3 hB3 hz3
  have BX := hid (show Blk w3 w.heap.size [Value.map (some b), .slice gp A.gone.length gc, .int .i64 (A.ever + 1), .int .i64 A.root] 66 from Blk.chg (Blk.chg hbx C2 (fun h => h)) C3 (fun h => h))
  have RS := hid (show Blk w3 (w.heap.size + 1) [Value.map none, .slice none 0 0, .int .i64 0, .int .i64 0] 66 from Blk.chg hr2 C3 (fun h => h))
  have MB := hid (show w3.ownsMap Try.prog 3 (plainElem (H := Unit) Try.prog 9) (w.heap.size + 1 + 1) 0 (.map []) from ⟨#[], 0, hm3, ⟨by simp, Go.MapKept.stamped_empty 0, by simp⟩, Nat.le_refl _, rfl⟩)
  clear hbx hB1 hz1 hr2 hB2 hz2 hm3 hB3 C2 C3
  go_loopw [4] (fun i wr => ∃ (j : Nat) (D' : DataW Unit), (j : Int) ≤ A.ever ∧ i = .int .i64 ((j : Int) + 1) ∧ wr.ownsMap Try.prog 3 (plainElem (H := Unit) Try.prog 9) (w.heap.size + 1 + 1) j D' ∧ Rp D' (upTo A.B j) ∧ Chg (fun k => k = w.heap.size + 1 + 1) w3 wr) (fun i _ => (A.ever + 2).toNat - (Go.RowKit.intOf i).toNat)
  case atStart => exact ⟨0, _, he0, rfl, MB.out, by rw [upTo_zero]; exact Rp.nil, Chg.refl _ _⟩
  case round =>
    obtain ⟨j, D', hj, rfl, hm, hrp, hch⟩ := hrel
    have M1 := hid hm
    have R1 := hid hrp
    have C1 := hid hch
    have S1 := hid (HS.out.chg (CW.out.trans (hch.mono (fun k _ e => (by omega : w.heap.size ≤ k))) (fun _ _ h => h)) (fun k hk h => by have := hlt0 k hk; omega))
    have BX1 := hid (BX.out.chg hch (by omega))
    have kx0 := BX1.out.cell 0
    have kx2 : wr.cell? ⟨w.heap.size, 2, none⟩ = some (.int .i64 (A.ever + 1)) := BX1.out.cell 2
    have kx0' : wr.cell? ⟨w.heap.size, 0, none⟩ = some (.map (some b)) := kx0
    clear hm hrp hch MB kx0
    have hwj : IntKind.i64.wrap ((j : Int) + 1 + 1) = (j : Int) + 1 + 1 := i64_small (by omega) (by omega)
    by_cases hlt : (j : Int) + 1 < A.ever + 1
    · have HKEY := hid (show keyOf Try.prog 3 (.int .i64 ((j : Int) + 1)) = some (.int .i64 ((j : Int) + 1)) from keyOf_int_mk Try.underlying3 (wf_small (by omega) (by omega)))
      rcases e : A.B ((j : Int) + 1) with _ | l
      · have E := hid e
        clear e
        go_wp2_with (at_lookup; refine wpList_lookup_own_ok _ rfl _ _ 64 rfl 3 9 mapKeyed Try.underlying64 _ (strZero _) (.lit (.string [])) [] strNil b N D rfl S1.out.own _ _ rfl HKEY.out ?_; intro v ps hv; rw [(got_str S1.out.rep _ hv).1, E.out]; clear hv)
        go_roundw
        case rel => exact ⟨j + 1, D', by omega, by push_cast; rfl, M1.out.mono (Nat.le_succ _), by rw [upTo_none E.out]; exact R1.out, C1.out⟩
        case measure => simp [Go.RowKit.intOf]; omega
      · have E := hid e
        have hl := (HO.out.bd _ _ e).2.2
        clear e
        have hps := plainElem_string (H := Unit) Try.underlying9 (s := ⟨l.toArray⟩) (by show l.toArray.size ≤ maxLen; simp [hl, maxLen])
        go_wp2_with (first
          | (at_lookup; refine wpList_lookup_own_ok _ rfl _ _ 64 rfl 3 9 mapKeyed Try.underlying64 _ (strZero _) (.lit (.string [])) [] strNil b N D rfl S1.out.own _ _ rfl HKEY.out ?_; intro v ps hv; have hg := got_str S1.out.rep _ hv; rw [hg.1, hg.2 (by rw [E.out]; rfl), E.out]; clear hv hg)
          | (at_mapUpdate; refine wpList_mapUpdate_in _ rfl _ _ _ 64 rfl 3 9 mapKeyed Try.underlying64 _ (w.heap.size + 1 + 1) j _ rfl M1.out (by unfold maxLen; omega) _ _ _ rfl rfl HKEY.out _ [] hps ?_; intro w5 hown5 hturn5; have OW5 := hid hown5; have TU5 := hid hturn5; clear hown5 hturn5))
        go_roundw
        case rel => exact ⟨j + 1, _, by omega, by push_cast; rfl, OW5.out, by rw [upTo_some E.out]; exact R1.out.put M1.out.isMap _ _, C1.out.trans ((Chg.grown TU5.out.grown).mono (fun k _ h => (Option.some.inj h).symm)) (fun _ _ h => h)⟩
        case measure => simp [Go.RowKit.intOf]; omega
    · have hje : (j : Int) = A.ever := by omega
      rw [upTo_all HO.out hje] at R1
      go_wp2_with fail
      have BXd := BX1.out.chg (Chg.drewN (fun _ => False) wr 1) (fun h => h)
      refine wp_region_plan (fun w' => Blk w' w.heap.size [Value.map (some b), .slice gp A.gone.length gc, .int .i64 (A.ever + 1), .int .i64 A.root] 66) (fun j => !([1, 4, 9, 10].contains j)) (fun j => [9, 10].contains j)
        (.of [0, 2, 3, 5, 6, 7, 8, 1, 4, 9, 10]) (by kernel_rfl) (by kernel_rfl) rfl (by kernel_rfl) (by kernel_rfl) BXd ?_
      iterate 7 (apply wpPlan_val; (case ho => rfl); (case hst => rfl); (case hw => rfl); (case hv => intro w' hS; have k1 : w'.cell? ⟨w.heap.size, 1, none⟩ = some (.slice gp A.gone.length gc) := hS.cell 1; have k2 : w'.cell? ⟨w.heap.size, 2, none⟩ = some (.int .i64 (A.ever + 1)) := hS.cell 2; have k3 : w'.cell? ⟨w.heap.size, 3, none⟩ = some (.int .i64 A.root) := hS.cell 3; clear hS; go_simp; first | done | rfl); intro K hK; go_simp; refine hK _ ?_; clear hK K)
      refine wpPlan_list rfl rfl rfl (fun K hK => ?_)
      refine wpList_step (fun K2 hK2 => ?_)
      go_simp
      have hB4 : Below wr.heap.size wr (wr.alloc (Obj.cells #[] 3)).drew := below_drewN ((Below.refl _ _).alloc (Nat.le_refl _) _) 1
      have hz4 : (wr.alloc (Obj.cells #[] 3)).drew.heap.size = wr.heap.size + 1 := by show (wr.alloc (Obj.cells #[] 3)).heap.size = _; simp
      have hwr : w.heap.size + 1 + 1 < wr.heap.size := M1.out.lt
      have hO4 : ((wr.alloc (Obj.cells #[] 3)).drew).ownsRow w.heap.size 3 1 (.slice (some ⟨wr.heap.size, 0, none⟩) 0 0) 0 [] := own_fresh wr [] 3 0 rfl (Nat.zero_le _) w.heap.size (by omega)
      generalize (wr.alloc (Obj.cells #[] 3)).drew = w4 at *
      have C4 := Chg.new hB4 (fun _ => False)
      have BX4 := BX1.out.chg C4 (fun h => h)
      have S4 := S1.out.chg C4 (fun _ _ h => h)
      have RD4 := hid (Rd.of_own S4.row)
      have O4 := hid hO4
      refine hK2 _ _ ?_
      clear hK2 K2
      simp only [wpList]
      refine hK _ _ (fun _ => BX4) ?_
      clear hK K
      refine wpPlan_list rfl rfl rfl (fun K hK => ?_)
      refine wpList_append_rd rfl _ _ 28 rfl w.heap.size 3 (.int .i64 0) 1 8 Try.underlying28 intInfo4 rfl (by decide) (.slice (some ⟨wr.heap.size, 0, none⟩) 0 0) 0 _ rfl O4.out _ A.gone.length _ rfl RD4.out (fun u hu => by obtain ⟨g, _, rfl⟩ := List.mem_map.1 hu; rfl) (by have := HO.out.few; simp only [maxLen]; omega) (by have := HO.out.few; omega) (by omega) ?_
      intro p5 c5 w5 hown5 hg5 hb5
      rw [Nat.zero_add] at hown5
      rw [Nat.zero_add]
      rw [Nat.zero_add] at hb5
      rw [List.nil_append] at hown5
      have C5 : Chg (fun k => k = wr.heap.size) w4 w5 := (Chg.grown hg5).mono (fun k _ h => by simpa [Value.ownBlock] using h.symm)
      have O5 := hid hown5
      have OB5 : Hid (∀ g, Value.ownBlock (.slice p5 A.gone.length c5) = some g → w.heap.size + 1 + 1 < g) := hid (fun g hg => by
        rcases hb5 with e | e
        · rw [e] at hg
          have h9 : g = wr.heap.size := by simpa [Value.ownBlock] using hg.symm
          omega
        · rw [e] at hg
          injection hg with hg
          omega)
      have BX5 := BX4.chg C5 (by omega)
      have RS5 := hid (((RS.out.chg C1.out (by omega)).chg C4 (fun h => h)).chg C5 (by omega))
      have C15 := hid (C1.out.trans (C4.mono (fun _ _ h => h.elim) : Chg (fun k => k = w.heap.size + 1 + 1) wr w4) (fun _ _ h => h))
      have M5 : Hid (w5.ownsMap Try.prog 3 (plainElem (H := Unit) Try.prog 9) (w.heap.size + 1 + 1) j D') := hid (by
        obtain ⟨es, cl, h8, h9⟩ := M1.out
        exact ⟨es, cl, C5.heap (C4.heap h8 (fun h => h)) (by omega), h9⟩)
      have C55 := hid C5
      have hs5 := C5.size
      clear hown5 hg5 hb5 hB4 hO4 C4 C5 BX4 S4 RD4 O4 BXd BX1
      simp only [wpList]
      refine hK _ _ (fun _ => BX5) ?_
      clear hK K
      refine wpPlan_list rfl rfl rfl (fun K hK => ?_)
      refine wpList_step (fun K2 hK2 => ?_)
      go_simp
      refine hK2 _ _ ?_
      clear hK2 K2
      simp only [wpList]
      refine hK _ _ (fun _ => BX5) ?_
      clear hK K
      refine wpPlan_list rfl rfl rfl (fun K hK => ?_)
      refine wpList_store_arr rfl 66 _ _ rfl 4 stInfo (w.heap.size + 1) 0 66 _ [.map (some (w.heap.size + 1 + 1)), .slice p5 A.gone.length c5, .int .i64 (A.ever + 1), .int .i64 A.root] rfl rfl RS5.out rfl (by simp) (fun u hu => by simp at hu; rcases hu with rfl | rfl | rfl | rfl <;> rfl) ?_
      intro w6 hw6 hc6 hs6
      rw [splice_all _ _ (by rfl)] at hw6
      have W6 := hid hw6
      have C6 := hid hc6
      clear hw6 hc6
      simp only [wpList]
      refine hK _ _ (fun h => by cases h) ?_
      clear hK K
      refine wpPlan_nil ?_
      simp only [Qn]
      go_wp2_with fail
      refine bodyPost_ret (results_cell_row rfl _ _ (w.heap.size + 1) 66 [Value.map (some (w.heap.size + 1 + 1)), .slice p5 A.gone.length c5, .int .i64 (A.ever + 1), .int .i64 A.root].toArray _ _ rfl W6.out Try.underlying66 rfl stInfo) rfl ?_
      refine ⟨w.heap.size + 1 + 1, .slice p5 A.gone.length c5, D', rfl, ⟨?_, R1.out, ?_⟩, ?_, by omega, fun g hg => by have := OB5.out g hg; omega⟩
      · obtain ⟨es, cl, h8, h9⟩ := M5.out.mono (show j ≤ N + 3000 by omega)
        exact ⟨es, cl, C6.out.heap h8 (by omega), h9⟩
      · exact own_chg (ownsRow_lower O5.out (Nat.zero_le _)) C6.out (fun g hg e => by have := OB5.out g hg; omega)
      · have c1 : Chg (fun k => w.heap.size ≤ k) w3 w4 := C15.out.mono (fun k _ e => by omega)
        have c2 : Chg (fun k => w.heap.size ≤ k) w4 w5 := C55.out.mono (fun k _ e => by omega)
        have c3 : Chg (fun k => w.heap.size ≤ k) w5 w6 := C6.out.mono (fun k _ e => by omega)
        exact (((CW.out.trans c1 (fun _ _ h => h)).trans c2 (fun _ _ h => h)).trans c3 (fun _ _ h => h)).below (fun k hk => hk) (Nat.le_refl _)
end Go.Proofs.Ytiphekepglihlaa

namespace Go.Proofs.Ytiphekepglihlaa
open Go.RowKit Go.Maps
set_option linter.unusedVariables false

set_option maxRecDepth 100000 in
set_option maxHeartbeats 4000000 in
theorem XCl.begin {w : World} {x : Nat} {G : Nat → Prop} {n : Nat} {S : AS} {N : Nat} (h : XCl w x G n S N) (hN : N ≤ 1000000) :
    Calls Try.prog 33 #[.pointer (some ⟨x, 0, none⟩)] w fun e w' => e = .returned (.int .i64 0) ∧ ∃ G', XOp w' x G' n S S (N + 3000) ∧ Chg G w w' ∧ ∀ k, G' k → G k ∨ w.heap.size ≤ k := by
  obtain ⟨b, gv, D, c5, c6, c7, c8, h1, h2, h3, h4, h5, h6, h7⟩ := h
  have k9 : w.cell? ⟨x, 9, none⟩ = some (.bool false) := h1.cell 9
  have f9 := h1.frozen 9
  have H1 := hid h1
  have H2 := hid h2
  have H3 := hid h3
  have H6 := hid h6
  have H7 := hid h7
  have CP := hid (copied_any w b gv N n D S h2 h3 hN)
  obtain ⟨gp, gc, rfl⟩ := own_shape h2.row
  clear h1 h2 h3 h6 h7
  go_enter Try.func33, Try.ntmps33
  go_wp2_with (refine wpList_load_arr rfl 66 _ rfl _ Try.underlying66 rfl 4 stInfo x 1 _ _ rfl H1.out (by simp) [.map (some b), .slice gp S.gone.length gc, .int .i64 (S.ever + 1), .int .i64 S.root] rfl ?_)
  refine CP.out.mono ?_
  rintro e1 w1 ⟨b2, gv2, D2, rfl, hs2, hb1, hb2, hg2⟩
  have B1 := hid hb1
  have C1 := hid (Chg.new hb1 (fun _ => False))
  have P1 := hid (H1.out.chg C1.out (fun h => h))
  have S1 := hid hs2
  have HB2 := hid hb2
  have HG2 := hid hg2
  obtain ⟨gp2, gc2, rfl⟩ := own_shape hs2.row
  have k91 := P1.out.cell 9
  have f91 := P1.out.frozen 9
  have hx := H1.out.lt
  clear hs2 hb1 hb2 hg2 CP k9 f9
  go_wp2_with (refine wpList_store_arr rfl 66 _ _ rfl 4 stInfo x 5 68 _ [.map (some b2), .slice gp2 S.gone.length gc2, .int .i64 (S.ever + 1), .int .i64 S.root] rfl rfl (P1.out.set 9 (.bool true)) rfl (by simp) (fun u hu => by simp at hu; rcases hu with rfl | rfl | rfl | rfl <;> rfl) ?_; intro w3 hw3 hc3 hs3; have W3 := hid hw3; have C3 := hid hc3; clear hw3 hc3)
  go_ret
  have C13 := hid ((Chg.setCell (fp := fun k => k = x) w1 (a := ⟨x, 9, none⟩) rfl (.bool true)).trans C3.out (fun _ _ h => h))
  have hlt2 := S1.out.lt
  have hx1 : x < w1.heap.size := Nat.lt_of_lt_of_le hx C1.out.size
  have d2 : ∀ k, stBl b2 (.slice gp2 S.gone.length gc2) k → w.heap.size ≤ k := fun k hk => by
    rcases hk with rfl | hk
    · exact HB2.out
    · exact HG2.out k hk
  have hs3' := C13.out.size
  refine ⟨rfl, fun k => k = x ∨ stBl b (.slice gp S.gone.length gc) k ∨ stBl b2 (.slice gp2 S.gone.length gc2) k, ⟨b, _, D, b2, _, D2, W3.out, ?_, ?_, H3.out.mono (by omega), H3.out.mono (by omega), h4, ?_, ?_, .inl rfl, fun k hk => .inr (.inl hk), fun k hk => .inr (.inr hk), ?_⟩, ?_, ?_⟩
  · exact ((H2.out.chg C1.out (fun _ _ h => h)).chg C13.out (fun k hk e => h4 (e ▸ hk))).mono (by omega)
  · exact S1.out.chg C13.out (fun k hk e => by have := d2 k hk; omega)
  · exact fun hk => by have := d2 x hk; omega
  · exact fun k hk hk2 => by have h1 := d2 k hk; have h2 := H2.out.lt k hk2; omega
  · rintro k (rfl | hk | hk)
    · omega
    · have := H2.out.lt k hk; have := C1.out.size; omega
    · have := hlt2 k hk; omega
  · exact (C1.out.mono (fun _ _ h => h.elim) : Chg G w w1).trans (C13.out.mono (fun k _ e => e ▸ h5)) (fun _ _ h => h)
  · rintro k (rfl | hk | hk)
    · exact .inl h5
    · exact .inl (H6.out k hk)
    · exact .inr (d2 k hk)
theorem XOp.begin {w : World} {x : Nat} {G : Nat → Prop} {n : Nat} {S T : AS} {N : Nat} (h : XOp w x G n S T N) :
    Calls Try.prog 33 #[.pointer (some ⟨x, 0, none⟩)] w fun e w' => e = .returned (.int .i64 12) ∧ w' = w := by
  obtain ⟨k0, k9, f9, hx⟩ := h.cells
  clear h
  go_enter Try.func33, Try.ntmps33
  go_wp2_with fail
  go_ret
  exact ⟨rfl, rfl⟩

theorem XCl.setRoot {w : World} {x : Nat} {G : Nat → Prop} {n : Nat} {S : AS} {N : Nat} (h : XCl w x G n S N) (k : Int) :
    Calls Try.prog 61 #[.pointer (some ⟨x, 0, none⟩), .int .i64 k] w fun e w' => e = .returned (.int .i64 12) ∧ w' = w := by
  obtain ⟨k0, k9, f9, hx⟩ := h.cells
  clear h
  go_enter Try.func61, Try.ntmps61
  go_wp2_with fail
  go_ret
  exact ⟨rfl, rfl⟩
theorem XOp.setRoot {w : World} {x : Nat} {G : Nat → Prop} {n : Nat} {S T : AS} {N : Nat} (h : XOp w x G n S T N) (k : Int) :
    Calls Try.prog 61 #[.pointer (some ⟨x, 0, none⟩), .int .i64 k] w fun e w' => e = .returned (.int .i64 (rootA T k).1) ∧ XOp w' x G n S (rootA T k).2 N ∧ Chg G w w' := by
  have H := hid h
  obtain ⟨b, gv, D, b2, gv2, D2, h1, h2, h3, h4, h5, h6, h7, h8, h9, h10, h11, h12⟩ := h
  have k9 : w.cell? ⟨x, 9, none⟩ = some (.bool true) := h1.cell 9
  have k8 : w.cell? ⟨x, 8, none⟩ = some (.int .i64 T.root) := h1.cell 8
  have f8 := h1.frozen 8
  have P := hid (h1.set 8 (.int .i64 k))
  have H2 := hid h2
  have H3 := hid h3
  have H8 := hid h8
  clear h1 h2 h3 h8
  by_cases e : k < 0
  · rw [show rootA T k = (1, T) from if_pos e]
    go_enter Try.func61, Try.ntmps61
    go_wp2_with fail
    go_ret
    exact ⟨rfl, H.out, Chg.refl _ _⟩
  · rw [show rootA T k = (0, { T with root := k }) from if_neg e]
    go_enter Try.func61, Try.ntmps61
    go_wp2_with fail
    go_ret
    have hc : Chg (fun k => k = x) w (w.setCell ⟨x, 8, none⟩ (.int .i64 k)) := Chg.setCell (fp := fun k => k = x) _ rfl _
    refine ⟨rfl, ⟨b, gv, D, b2, gv2, D2, P.out, H2.out.chg hc (fun q hq e => h6 (e ▸ hq)), ?_, h4, ⟨h5.n0, h5.n1, h5.ev0, h5.ev1, h5.bd, h5.gbd, h5.few⟩, h6, h7, H8.out, h9, h10, h11, fun q hq => Nat.lt_of_lt_of_le (h12 q hq) hc.size⟩, hc.mono (fun q _ e => e ▸ h9)⟩
    have h13 := H3.out.chg hc (fun q hq e => h7 (e ▸ hq))
    exact ⟨h13.own, h13.rep, h13.row⟩
theorem XCl.commit {w : World} {x : Nat} {G : Nat → Prop} {n : Nat} {S : AS} {N : Nat} (h : XCl w x G n S N) :
    Calls Try.prog 34 #[.pointer (some ⟨x, 0, none⟩)] w fun e w' => e = .returned (.int .i64 12) ∧ w' = w := by
  obtain ⟨k0, k9, f9, hx⟩ := h.cells
  clear h
  go_enter Try.func34, Try.ntmps34
  go_wp2_with fail
  go_ret
  exact ⟨rfl, rfl⟩
theorem XCl.abort {w : World} {x : Nat} {G : Nat → Prop} {n : Nat} {S : AS} {N : Nat} (h : XCl w x G n S N) :
    Calls Try.prog 30 #[.pointer (some ⟨x, 0, none⟩)] w fun e w' => e = .returned (.tuple #[]) ∧ XCl w' x G n S N ∧ Chg G w w' := by
  have H := hid h
  obtain ⟨b, gv, D, c5, c6, c7, c8, h1, h2, h3, h4, h5, h6, h7⟩ := h
  have k9 : w.cell? ⟨x, 9, none⟩ = some (.bool false) := h1.cell 9
  have f9 := h1.frozen 9
  have P := hid (h1.set 9 (.bool false))
  have H2 := hid h2
  clear h1 h2
  go_enter Try.func30, Try.ntmps30
  go_wp2_with fail
  go_end0
  have hc : Chg (fun k => k = x) w (w.setCell ⟨x, 9, none⟩ (.bool false)) := Chg.setCell (fp := fun k => k = x) _ rfl _
  exact ⟨rfl, ⟨b, gv, D, c5, c6, c7, c8, P.out, H2.out.chg hc (fun q hq e => h4 (e ▸ hq)), h3, h4, h5, h6, fun q hq => Nat.lt_of_lt_of_le (h7 q hq) hc.size⟩, hc.mono (fun q _ e => e ▸ h5)⟩
theorem XOp.abort {w : World} {x : Nat} {G : Nat → Prop} {n : Nat} {S T : AS} {N : Nat} (h : XOp w x G n S T N) :
    Calls Try.prog 30 #[.pointer (some ⟨x, 0, none⟩)] w fun e w' => e = .returned (.tuple #[]) ∧ XCl w' x G n S N ∧ Chg G w w' := by
  obtain ⟨b, gv, D, b2, gv2, D2, h1, h2, h3, h4, h5, h6, h7, h8, h9, h10, h11, h12⟩ := h
  have k9 : w.cell? ⟨x, 9, none⟩ = some (.bool true) := h1.cell 9
  have f9 := h1.frozen 9
  have P := hid (h1.set 9 (.bool false))
  have H2 := hid h2
  clear h1 h2 h3 h8 h11
  go_enter Try.func30, Try.ntmps30
  go_wp2_with fail
  go_end0
  have hc : Chg (fun k => k = x) w (w.setCell ⟨x, 9, none⟩ (.bool false)) := Chg.setCell (fp := fun k => k = x) _ rfl _
  exact ⟨rfl, ⟨b, gv, D, _, _, _, _, P.out, H2.out.chg hc (fun q hq e => h6 (e ▸ hq)), h4, h6, h9, h10, fun q hq => Nat.lt_of_lt_of_le (h12 q hq) hc.size⟩, hc.mono (fun q _ e => e ▸ h9)⟩
set_option maxRecDepth 100000 in
theorem XOp.commit {w : World} {x : Nat} {G : Nat → Prop} {n : Nat} {S T : AS} {N : Nat} (h : XOp w x G n S T N) :
    Calls Try.prog 34 #[.pointer (some ⟨x, 0, none⟩)] w fun e w' => e = .returned (.int .i64 0) ∧ XCl w' x G n T N ∧ Chg G w w' := by
  obtain ⟨b, gv, D, b2, gv2, D2, h1, h2, h3, h4, h5, h6, h7, h8, h9, h10, h11, h12⟩ := h
  have k9 : w.cell? ⟨x, 9, none⟩ = some (.bool true) := h1.cell 9
  obtain ⟨gp2, gc2, rfl⟩ := own_shape h3.row
  have H1 := hid h1
  have H3 := hid h3
  have H11 := hid h11
  clear h1 h2 h3 h8 h10 h11
  go_enter Try.func34, Try.ntmps34
  go_wp2_with (first
    | (refine wpList_load_arr rfl 66 _ rfl _ Try.underlying66 rfl 4 stInfo x 5 _ _ rfl H1.out (by simp) [.map (some b2), .slice gp2 T.gone.length gc2, .int .i64 (T.ever + 1), .int .i64 T.root] rfl ?_)
    | (refine wpList_store_arr rfl 66 _ _ rfl 4 stInfo x 1 68 _ [.map (some b2), .slice gp2 T.gone.length gc2, .int .i64 (T.ever + 1), .int .i64 T.root] rfl rfl H1.out rfl (by simp) (fun u hu => by simp at hu; rcases hu with rfl | rfl | rfl | rfl <;> rfl) ?_; intro w3 hw3 hc3 hs3; have W3 := hid hw3; have C3 := hid hc3; have k93 := hw3.cell 9; have f93 := hw3.frozen 9; clear hw3 hc3))
  go_ret
  have hc : Chg (fun k => k = x) w (w3.setCell ⟨x, 9, none⟩ (.bool false)) := C3.out.trans (Chg.setCell (fp := fun k => k = x) _ rfl _) (fun _ _ h => h)
  exact ⟨rfl, ⟨b2, _, D2, _, _, _, _, W3.out.set 9 (.bool false), H3.out.chg hc (fun q hq e => h7 (e ▸ hq)), h5, h7, h9, H11.out, fun q hq => Nat.lt_of_lt_of_le (h12 q hq) hc.size⟩, hc.mono (fun q _ e => e ▸ h9)⟩
end Go.Proofs.Ytiphekepglihlaa

namespace Go.Proofs.Ytiphekepglihlaa
open Go.RowKit Go.Maps
set_option linter.unusedVariables false

theorem row_upto {w : World} {b t n m c : Nat} {p : Option Addr} {xs : List Value} (h : w.ownsRow b t 1 (.slice p n c) n xs) (hm : m ≤ n) (hp : p ≠ none) : w.ownsRow b t 1 (.slice p m c) m (xs.take m) := by
  obtain ⟨h1, h2⟩ := h
  rcases h2 with ⟨h3, h4⟩ | ⟨g, cap, cur, h3, h4, h5, h6, h7, h8, h9⟩
  · injection h3 with e1 _ _
    exact absurd e1 hp
  · injection h3 with e1 _ e3
    subst e1
    subst e3
    refine ⟨by simp; omega, .inr ⟨g, c, cur, rfl, h4, h5, by omega, h7, h8, ?_⟩⟩
    rw [← h9, List.take_take]
    congr 1
    omega
theorem AOk.new {n N : Nat} {A : AS} (h : AOk n N A) : AOk n N (newA n A).2.2 := by
  unfold newA
  rcases e : A.gone with _ | ⟨g, gs⟩
  · simp only
    split
    · refine ⟨h.n0, h.n1, by have := h.ev0; show 0 ≤ A.ever + 1; omega, by show A.ever + 1 < _; omega, fun k l hk => ?_, fun k hk => (by cases hk), Nat.zero_le _⟩
      · rw [AS.set_B] at hk
        by_cases e1 : k = A.ever + 1
        · rw [if_pos e1] at hk
          injection hk with hk
          have := h.ev0
          exact ⟨by omega, by show k ≤ A.ever + 1; omega, by rw [← hk]; exact pad504_length (by simp)⟩
        · rw [if_neg e1] at hk
          have := h.bd k l hk
          exact ⟨this.1, by show k ≤ A.ever + 1; omega, this.2.2⟩
    · exact h
  · simp only
    have hf := h.few
    rw [e] at hf
    have hg := h.gbd g (by rw [e]; exact List.mem_cons_self ..)
    refine ⟨h.n0, h.n1, h.ev0, h.ev1, fun k l hk => ?_, fun k hk => h.gbd k (by rw [e]; exact List.mem_cons_of_mem _ hk), by show gs.length ≤ N; simp only [List.length_cons] at hf; omega⟩
    rw [AS.set_B] at hk
    by_cases e1 : k = g
    · rw [if_pos e1] at hk
      injection hk with hk
      exact ⟨by omega, by show k ≤ A.ever; omega, by rw [← hk]; exact pad504_length (by simp)⟩
    · rw [if_neg e1] at hk
      exact h.bd k l hk

theorem wpList_slice_to {P : Program} {w : World} {ops : Array Oper} {rest : List Oper} {o : Oper} {a : Act} {Q : Exit → Act → World → Prop} (hgd : o.guard = none) (t : TypeId) (x h : Operand) (ho : o.op = .slice t x none (some h) none) (e : TypeId) (size : Nat) (ht : P.underlying t = some (.slice e)) (hsz : (P.info? e).map (·.size) = some size)
    (p : Option Addr) (n cap hi : Nat) (k : IntKind) (hp : p = none → cap = 0) (hx : a.eval x = .slice p n cap) (hh : a.eval h = .int k (hi : Int)) (h2 : hi ≤ cap) (hK : wpList P ops Q rest (a.put o.dst (.slice p hi cap)) w) : wpList P ops Q (o :: rest) a w := by
  refine wpList_plain hgd fun K hK' => ?_
  have hr := exec_slice_to (P := P) (w := w) (a := a) (o := o) t x h ho e size ht hsz p n cap hi k hp hx hh h2
  unfold Oper.wp
  rw [hr]
  exact hK' _ _ hK
theorem infoInt1 : (Try.prog.info? 3).map (·.size) = some 1 := by kernel_rfl

theorem XCl.new {w : World} {x : Nat} {G : Nat → Prop} {n : Nat} {S : AS} {N : Nat} (h : XCl w x G n S N) :
    Calls Try.prog 35 #[.pointer (some ⟨x, 0, none⟩)] w fun e w' => e = .returned (.tuple #[.int .i64 0, .int .i64 12]) ∧ w' = w := by
  obtain ⟨k0, k9, f9, hx⟩ := h.cells
  clear h
  go_enter Try.func35, Try.ntmps35
  go_wp2_with fail
  go_ret2
  exact ⟨rfl, rfl⟩

set_option maxRecDepth 100000 in
set_option maxHeartbeats 4000000 in
theorem XOp.new {w : World} {x : Nat} {G : Nat → Prop} {n : Nat} {S T : AS} {N : Nat} (h : XOp w x G n S T N) (hN : N ≤ 1000000) :
    Calls Try.prog 35 #[.pointer (some ⟨x, 0, none⟩)] w fun e w' => e = .returned (.tuple #[.int .i64 (newA n T).1, .int .i64 (newA n T).2.1]) ∧ XOp w' x G n S (newA n T).2.2 (N + 1) ∧ Chg G w w' := by
  have H := hid h
  obtain ⟨b, gv, D, b2, gv2, D2, h1, h2, h3, h4, h5, h6, h7, h8, h9, h10, h11, h12⟩ := h
  obtain ⟨gp2, gc2, rfl⟩ := own_shape h3.row
  have k9 : w.cell? ⟨x, 9, none⟩ = some (.bool true) := h1.cell 9
  have k0 : w.cell? ⟨x, 0, none⟩ = some (.int .i64 ((n : Int) - 401)) := h1.cell 0
  have k7 : w.cell? ⟨x, 7, none⟩ = some (.int .i64 (T.ever + 1)) := h1.cell 7
  have k6 : w.cell? ⟨x, 6, none⟩ = some (.slice gp2 T.gone.length gc2) := h1.cell 6
  have k5 : w.cell? ⟨x, 5, none⟩ = some (.map (some b2)) := h1.cell 5
  have f7 := h1.frozen 7
  have f6 := h1.frozen 6
  have P := hid h1
  have H2 := hid h2
  have H3 := hid h3
  have HA := hid h5.new
  have H8 := hid h8
  have H5 := hid h5
  have he0 := h5.ev0
  have he1 := h5.ev1
  have hn1 := h5.n1
  have hwe : IntKind.i64.wrap (T.ever + 1 + 1) = T.ever + 1 + 1 := i64_small (by omega) (by omega)
  clear h1 h2 h3 h5 h8
  rcases e : T.gone with _ | ⟨g, gs⟩
  · have hnA : newA n T = if T.ever + 1 < (n : Int) - 401 then (T.ever + 1, 0, { T with ever := T.ever + 1 }.set (T.ever + 1) (some (pad504 []))) else (0, 14, T) := by unfold newA; rw [e]
    rw [e, List.length_nil] at k6
    by_cases hlt : T.ever + 1 < (n : Int) - 401
    · rw [if_pos hlt] at hnA
      rw [hnA]
      rw [hnA] at HA
      have E := hid e
      clear e hnA
      go_enter Try.func35, Try.ntmps35
      go_wp2_with fail
      have hc1 : Chg (fun k => k = x) w (w.setCell ⟨x, 7, none⟩ (.int .i64 (T.ever + 1 + 1))) := Chg.setCell (fp := fun k => k = x) _ rfl _
      have P1 := P.out.set 7 (.int .i64 (T.ever + 1 + 1))
      have hcd : (w.setCell ⟨x, 7, none⟩ (.int .i64 (T.ever + 1 + 1))).drew.cell? ⟨x, 5, none⟩ = some (.map (some b2)) := P1.cell 5
      have Cd := hc1.trans (Chg.drewN (fun k => k = x) _ 1) (fun _ _ h => h)
      generalize w.setCell ⟨x, 7, none⟩ (.int .i64 (T.ever + 1 + 1)) = w1 at *
      have HKEY := hid (show keyOf Try.prog 3 (.int .i64 (T.ever + 1)) = some (.int .i64 (T.ever + 1)) from keyOf_int_mk Try.underlying3 (wf_small (by omega) (by omega)))
      have strZ := plainElem_string (H := Unit) Try.underlying9 (s := ⟨(List.replicate 504 0).toArray⟩) (by show (List.replicate 504 (0 : UInt8)).toArray.size ≤ maxLen; simp [maxLen])
      refine wp_region_plan (fun w' => w'.cell? ⟨x, 5, none⟩ = some (.map (some b2))) (fun j => !([6, 7, 8].contains j)) (fun j => [8].contains j)
        (.of [0, 1, 2, 3, 4, 5, 6, 7, 8]) (by kernel_rfl) (by kernel_rfl) rfl (by kernel_rfl) (by kernel_rfl) hcd ?_
      iterate 6 (apply wpPlan_val; (case ho => rfl); (case hst => rfl); (case hw => rfl); (case hv => intro w' hS; go_simp; first | done | rfl); intro K hK; go_simp; refine hK _ ?_; clear hK K)
      refine wpPlan_list rfl rfl rfl (fun K hK => ?_)
      refine wpList_make_blk rfl _ _ 41 rfl 5 _ 1 1 Try.underlying41 infoU8 _ _ _ _ 504 rfl rfl rfl rfl (by omega) (by simp only [maxLen]; omega) ?_
      intro w3 hh hb3 hl3
      rw [made_bytes] at hh
      have M3 := hid hh
      have C3 := hid (Cd.trans (Chg.new hb3 (fun k => k = x)) (fun _ _ h => h))
      have k53 : w3.cell? ⟨x, 5, none⟩ = some (.map (some b2)) := (hb3.cell (p := ⟨x, 5, none⟩) (World.block_lt_of_cell? _ _ hcd)).trans hcd
      have P3 := hid ((P1.chg (Chg.drewN (fun _ => False) _ 1) (fun h => h)).chg (Chg.new hb3 (fun _ => False)) (fun h => h))
      clear hh hb3 hl3 hcd
      simp only [wpList]
      refine hK _ _ (fun _ => k53) ?_
      clear hK K
      refine wpPlan_list rfl rfl rfl (fun K hK => ?_)
      refine wpList_bytes_str rfl 41 9 _ rfl 5 Try.underlying41 Try.underlying5 Try.underlying9 _ (List.replicate 504 0) rfl (Bs.blk (n := 504) M3.out (by simp) (by simp only [maxLen]; omega)) ?_
      simp only [wpList]
      refine hK _ _ (fun _ => k53) ?_
      clear hK K
      refine wpPlan_list rfl rfl rfl (fun K hK => ?_)
      refine wpList_mapUpdate_in _ rfl _ _ _ 64 rfl 3 9 mapKeyed Try.underlying64 _ b2 N _ rfl (H3.out.chg C3.out (fun k hk e => h7 (e ▸ hk))).own (by unfold maxLen; omega) _ _ _ rfl rfl HKEY.out _ [] strZ ?_
      intro w5 hown5 hturn5
      have OW5 := hid hown5
      have TU5 := hid ((Chg.grown hturn5.grown).mono (fun k _ h => (Option.some.inj h).symm) : Chg (fun k => k = b2) w3 w5)
      clear hown5 hturn5
      simp only [wpList]
      refine hK _ _ (fun h => by cases h) ?_
      clear hK K
      refine wpPlan_nil ?_
      simp only [Qn]
      go_wp2_with fail
      go_ret2
      have hb2x : x ≠ b2 := fun e => h7 (.inl e)
      have C5 : Chg (fun k => k = x ∨ k = b2) w w5 := (C3.out.mono (fun k _ e => .inl e) : Chg (fun k => k = x ∨ k = b2) w w3).trans (TU5.out.mono (fun k _ e => .inr e)) (fun _ _ h => h)
      have hs3 := C5.size
      refine ⟨rfl, ⟨b, gv, D, b2, _, _, P3.out.chg TU5.out hb2x, ?_, ⟨OW5.out, H3.out.rep.put H3.out.own.isMap _ _, ?_⟩, h4.mono (Nat.le_succ _), HA.out.mono (Nat.le_succ _), h6, ?_, ?_, h9, h10, ?_, fun q hq => Nat.lt_of_lt_of_le (h12 q hq) hs3⟩, C5.mono (fun k _ e => e.elim (fun e => e ▸ h9) (fun e => e ▸ h11 b2 (.inl rfl)))⟩
      · exact (H2.out.chg C5 (fun k hk e => e.elim (fun e => h6 (e ▸ hk)) (fun e => H8.out b2 (.inl rfl) (e ▸ hk)))).mono (Nat.le_succ _)
      · have h13 := own_chg H3.out.row C5 (fun g hg e => e.elim (fun e => h7 (.inr (e ▸ hg))) (fun e => H3.out.ne (e ▸ hg)))
        exact h13
      · exact h7
      · exact H8.out
      · exact h11
    · rw [if_neg hlt] at hnA
      rw [hnA]
      clear e hnA HA
      go_enter Try.func35, Try.ntmps35
      go_wp2_with fail
      go_ret2
      obtain ⟨b, gv, D, b2, gv2, D2, h1, h2, h3, h4, h5, h6, h7, h8, h9, h10, h11, h12⟩ := H.out
      exact ⟨rfl, ⟨b, gv, D, b2, gv2, D2, h1, h2.mono (Nat.le_succ _), h3.mono (Nat.le_succ _), h4.mono (Nat.le_succ _), h5.mono (Nat.le_succ _), h6, h7, h8, h9, h10, h11, h12⟩, Chg.refl _ _⟩
  · have hnA : newA n T = (g, 0, { T with gone := gs }.set g (some (pad504 []))) := by unfold newA; rw [e]
    rw [hnA]
    rw [hnA] at HA
    have hg := H5.out.gbd g (by rw [e]; exact List.mem_cons_self ..)
    have hrow := H3.out.row
    rw [e] at hrow k6
    obtain ⟨m, hm⟩ : ∃ m : Nat, (g :: gs).length = m := ⟨_, rfl⟩
    have hm1 : gs.length + 1 = m := by rw [← hm]; simp
    rw [hm] at hrow k6
    have hfew := H5.out.few
    rw [e, hm] at hfew
    obtain ⟨gb, off, hgp, gcell⟩ := Rd.addr (Rd.of_own hrow) (by omega)
    have hgc : w.cell? ⟨gb, off + (m - 1), none⟩ = some (.int .i64 g) := gcell (m - 1) (.int .i64 g) (by
      rw [List.getElem?_map, List.reverse_cons, List.getElem?_append_right (by simp; omega)]
      simp [← hm1])
    have hw9 : IntKind.i64.wrap ((m : Int) - 1) = ((m - 1 : Nat) : Int) := by rw [i64_small (by omega) (by omega)]; omega
    have hmc : m ≤ gc2 := by
      obtain ⟨_, p0, c0, he, h3', _⟩ := Rd.of_own hrow
      injection he with _ _ e3
      rw [e3]
      exact h3'
    have ROW := hid (row_upto hrow (show m - 1 ≤ m by omega) (by rw [hgp]; simp))
    have hown : ∀ c' q, Value.ownBlock (.slice gp2 c' q) = some gb := fun c' q => by rw [hgp]; rfl
    have HGB := hid hown
    subst hgp
    have HKEY := hid (show keyOf Try.prog 3 (.int .i64 g) = some (.int .i64 g) from keyOf_int_mk Try.underlying3 (wf_small (by omega) (by omega)))
    have strZ := plainElem_string (H := Unit) Try.underlying9 (s := ⟨(List.replicate 504 0).toArray⟩) (by show (List.replicate 504 (0 : UInt8)).toArray.size ≤ maxLen; simp [maxLen])
    have hlt1 : m - 1 < m := by omega
    have hm0 : 0 < (m : Int) := by omega
    have E := hid e
    clear e hnA gcell hrow hown
    go_enter Try.func35, Try.ntmps35
    go_wp2_with (refine wpList_slice_to rfl 28 _ _ rfl 3 1 Try.underlying28 infoInt1 (some ⟨gb, off, none⟩) m gc2 (m - 1) .i64 (fun h => by cases h) rfl rfl (by omega) ?_)
    have hc1 : Chg (fun k => k = x) w (w.setCell ⟨x, 6, none⟩ (.slice (some ⟨gb, off, none⟩) (m - 1) gc2)) := Chg.setCell (fp := fun k => k = x) _ rfl _
    have P1 := P.out.set 6 (.slice (some ⟨gb, off, none⟩) (m - 1) gc2)
    have hcd : (w.setCell ⟨x, 6, none⟩ (.slice (some ⟨gb, off, none⟩) (m - 1) gc2)).drew.cell? ⟨x, 5, none⟩ = some (.map (some b2)) := P1.cell 5
    have Cd := hc1.trans (Chg.drewN (fun k => k = x) _ 1) (fun _ _ h => h)
    generalize w.setCell ⟨x, 6, none⟩ (.slice (some ⟨gb, off, none⟩) (m - 1) gc2) = w1 at *
    refine wp_region_plan (fun w' => w'.cell? ⟨x, 5, none⟩ = some (.map (some b2))) (fun j => !([6, 7, 8].contains j)) (fun j => [8].contains j)
      (.of [0, 1, 2, 3, 4, 5, 6, 7, 8]) (by kernel_rfl) (by kernel_rfl) rfl (by kernel_rfl) (by kernel_rfl) hcd ?_
    iterate 6 (apply wpPlan_val; (case ho => rfl); (case hst => rfl); (case hw => rfl); (case hv => intro w' hS; go_simp; first | done | rfl); intro K hK; go_simp; refine hK _ ?_; clear hK K)
    refine wpPlan_list rfl rfl rfl (fun K hK => ?_)
    refine wpList_make_blk rfl _ _ 41 rfl 5 _ 1 1 Try.underlying41 infoU8 _ _ _ _ 504 rfl rfl rfl rfl (by omega) (by simp only [maxLen]; omega) ?_
    intro w3 hh hb3 hl3
    rw [made_bytes] at hh
    have M3 := hid hh
    have C3 := hid (Cd.trans (Chg.new hb3 (fun k => k = x)) (fun _ _ h => h))
    have k53 : w3.cell? ⟨x, 5, none⟩ = some (.map (some b2)) := (hb3.cell (p := ⟨x, 5, none⟩) (World.block_lt_of_cell? _ _ hcd)).trans hcd
    have P3 := hid ((P1.chg (Chg.drewN (fun _ => False) _ 1) (fun h => h)).chg (Chg.new hb3 (fun _ => False)) (fun h => h))
    clear hh hb3 hl3 hcd
    simp only [wpList]
    refine hK _ _ (fun _ => k53) ?_
    clear hK K
    refine wpPlan_list rfl rfl rfl (fun K hK => ?_)
    refine wpList_bytes_str rfl 41 9 _ rfl 5 Try.underlying41 Try.underlying5 Try.underlying9 _ (List.replicate 504 0) rfl (Bs.blk (n := 504) M3.out (by simp) (by simp only [maxLen]; omega)) ?_
    simp only [wpList]
    refine hK _ _ (fun _ => k53) ?_
    clear hK K
    refine wpPlan_list rfl rfl rfl (fun K hK => ?_)
    refine wpList_mapUpdate_in _ rfl _ _ _ 64 rfl 3 9 mapKeyed Try.underlying64 _ b2 N _ rfl (H3.out.chg C3.out (fun k hk e => h7 (e ▸ hk))).own (by unfold maxLen; omega) _ _ _ rfl rfl HKEY.out _ [] strZ ?_
    intro w5 hown5 hturn5
    have OW5 := hid hown5
    have TU5 := hid ((Chg.grown hturn5.grown).mono (fun k _ h => (Option.some.inj h).symm) : Chg (fun k => k = b2) w3 w5)
    clear hown5 hturn5
    simp only [wpList]
    refine hK _ _ (fun h => by cases h) ?_
    clear hK K
    refine wpPlan_nil ?_
    simp only [Qn]
    go_wp2_with fail
    go_ret2
    have hb2x : x ≠ b2 := fun e => h7 (.inl e)
    have C5 : Chg (fun k => k = x ∨ k = b2) w w5 := (C3.out.mono (fun k _ e => .inl e) : Chg (fun k => k = x ∨ k = b2) w w3).trans (TU5.out.mono (fun k _ e => .inr e)) (fun _ _ h => h)
    have hs3 := C5.size
    have hbl : ∀ k, stBl b2 (.slice (some ⟨gb, off, none⟩) (m - 1) gc2) k → stBl b2 (.slice (some ⟨gb, off, none⟩) T.gone.length gc2) k := fun k hk => hk
    refine ⟨rfl, ⟨b, gv, D, b2, .slice (some ⟨gb, off, none⟩) (m - 1) gc2, _, P3.out.chg TU5.out hb2x, ?_, ⟨OW5.out, H3.out.rep.put H3.out.own.isMap _ _, ?_⟩, h4.mono (Nat.le_succ _), HA.out.mono (Nat.le_succ _), h6, ?_, ?_, h9, h10, ?_, fun q hq => Nat.lt_of_lt_of_le (h12 q hq) hs3⟩, C5.mono (fun k _ e => e.elim (fun e => e ▸ h9) (fun e => e ▸ h11 b2 (.inl rfl)))⟩
    · exact (H2.out.chg C5 (fun k hk e => e.elim (fun e => h6 (e ▸ hk)) (fun e => H8.out b2 (.inl rfl) (e ▸ hk)))).mono (Nat.le_succ _)
    · have h13 := own_chg ROW.out C5 (fun g hg e => e.elim (fun e => h7 (.inr (e ▸ hg))) (fun e => H3.out.ne (e ▸ hg)))
      have hl : m - 1 = gs.length := by omega
      have hx9 : ((g :: gs).reverse.map (Value.int .i64)).take (m - 1) = gs.reverse.map (Value.int .i64) := by
        rw [List.reverse_cons, List.map_append, List.take_left' (by simp; omega)]
      rw [hx9, hl] at h13
      rw [hl]
      exact h13
    · exact h7
    · exact H8.out
    · exact h11
end Go.Proofs.Ytiphekepglihlaa

namespace Go.Proofs.Ytiphekepglihlaa
open Go.RowKit Go.Maps
set_option linter.unusedVariables false

theorem AOk.put {n N : Nat} {A : AS} (h : AOk n N A) (k : Int) (l : List UInt8) : AOk n N (putA A k l).2 := by
  unfold putA
  split
  · rename_i h1
    split
    · exact h
    · rename_i h2
      refine ⟨h.n0, h.n1, h.ev0, h.ev1, fun q l' hq => ?_, h.gbd, h.few⟩
      rw [AS.set_B] at hq
      by_cases e : q = k
      · rw [if_pos e] at hq
        injection hq with hq
        obtain ⟨l0, hl0⟩ := Option.isSome_iff_exists.1 h1
        have := h.bd k l0 hl0
        exact ⟨by omega, by show q ≤ A.ever; omega, by rw [← hq]; exact pad504_length (by omega)⟩
      · rw [if_neg e] at hq
        exact h.bd q l' hq
  · exact h
theorem AOk.drop {n N : Nat} {A : AS} (h : AOk n N A) (k : Int) : AOk n (N + 1) (dropA A k).2 := by
  unfold dropA
  split
  · rename_i h1
    obtain ⟨l0, hl0⟩ := Option.isSome_iff_exists.1 h1
    have hb := h.bd k l0 hl0
    refine ⟨h.n0, h.n1, h.ev0, h.ev1, fun q l' hq => ?_, fun q hq => ?_, by show (k :: A.gone).length ≤ N + 1; have := h.few; simp; omega⟩
    · rw [AS.set_B] at hq
      by_cases e : q = k
      · rw [if_pos e] at hq; cases hq
      · rw [if_neg e] at hq
        exact h.bd q l' hq
    · rcases List.mem_cons.1 hq with rfl | hq
      · exact ⟨hb.1, hb.2.1⟩
      · exact h.gbd q hq
  · exact h.mono (Nat.le_succ _)

theorem XCl.put {w : World} {x : Nat} {G : Nat → Prop} {n : Nat} {S : AS} {N : Nat} (h : XCl w x G n S N) (k : Int) (v : Value) :
    Calls Try.prog 59 #[.pointer (some ⟨x, 0, none⟩), .int .i64 k, v] w fun e w' => e = .returned (.int .i64 12) ∧ w' = w := by
  obtain ⟨k0, k9, f9, hx⟩ := h.cells
  clear h
  go_enter Try.func59, Try.ntmps59
  go_wp2_with fail
  go_ret
  exact ⟨rfl, rfl⟩
theorem XCl.drop {w : World} {x : Nat} {G : Nat → Prop} {n : Nat} {S : AS} {N : Nat} (h : XCl w x G n S N) (k : Int) :
    Calls Try.prog 60 #[.pointer (some ⟨x, 0, none⟩), .int .i64 k] w fun e w' => e = .returned (.int .i64 12) ∧ w' = w := by
  obtain ⟨k0, k9, f9, hx⟩ := h.cells
  clear h
  go_enter Try.func60, Try.ntmps60
  go_wp2_with fail
  go_ret
  exact ⟨rfl, rfl⟩

theorem XOp.more {w : World} {x : Nat} {G : Nat → Prop} {n : Nat} {S T : AS} {N : Nat} (h : XOp w x G n S T N) : XOp w x G n S T (N + 1) := by
  obtain ⟨b, gv, D, b2, gv2, D2, h1, h2, h3, h4, h5, h6, h7, h8, h9, h10, h11, h12⟩ := h
  exact ⟨b, gv, D, b2, gv2, D2, h1, h2.mono (Nat.le_succ _), h3.mono (Nat.le_succ _), h4.mono (Nat.le_succ _), h5.mono (Nat.le_succ _), h6, h7, h8, h9, h10, h11, h12⟩

set_option maxRecDepth 100000 in
set_option maxHeartbeats 4000000 in
theorem XOp.put {w : World} {x : Nat} {G : Nat → Prop} {n : Nat} {S T : AS} {N : Nat} (h : XOp w x G n S T N) (hN : N ≤ 1000000) (k : Int) (hk : (Lit.int .i64 k).wf = true) (v : Value) (l : List UInt8) (hv : Bs w v l) (hlm : l.length ≤ 1000000) :
    Calls Try.prog 59 #[.pointer (some ⟨x, 0, none⟩), .int .i64 k, v] w fun e w' => e = .returned (.int .i64 (putA T k l).1) ∧ XOp w' x G n S (putA T k l).2 (N + 1) ∧ Chg G w w' := by
  have H := hid h
  obtain ⟨b, gv, D, b2, gv2, D2, h1, h2, h3, h4, h5, h6, h7, h8, h9, h10, h11, h12⟩ := h
  have k9 : w.cell? ⟨x, 9, none⟩ = some (.bool true) := h1.cell 9
  have k5 : w.cell? ⟨x, 5, none⟩ = some (.map (some b2)) := h1.cell 5
  have HV := hid hv
  obtain ⟨_, pv, pc, rfl, _⟩ := hv
  have P := hid h1
  have H2 := hid h2
  have H3 := hid h3
  have HA := hid (h5.put k l)
  have H8 := hid h8
  have HKEY := hid (show keyOf Try.prog 3 (.int .i64 k) = some (.int .i64 k) from keyOf_int_mk Try.underlying3 hk)
  clear h1 h2 h3 h5 h8 hk
  rcases e : T.B k with _ | l0
  · rw [show putA T k l = (1, T) from if_neg (by rw [e]; simp)]
    have E := hid e
    clear e
    go_enter Try.func59, Try.ntmps59
    go_wp2_with (at_lookup; refine wpList_lookup_own_ok _ rfl _ _ 64 rfl 3 9 mapKeyed Try.underlying64 _ (strZero _) (.lit (.string [])) [] strNil b2 N D2 rfl H3.out.own _ _ rfl HKEY.out ?_; intro v ps hv; rw [(got_str H3.out.rep _ hv).1, E.out]; clear hv)
    go_ret
    exact ⟨rfl, H.out.more, Chg.refl _ _⟩
  · have hput : putA T k l = if 504 < l.length then (5, T) else (0, T.set k (some (pad504 l))) := if_pos (by rw [e]; rfl)
    by_cases h5 : 504 < l.length
    · rw [hput, if_pos h5]
      have E := hid e
      clear e hput HA
      go_enter Try.func59, Try.ntmps59
      go_wp2_with (at_lookup; refine wpList_lookup_own_ok _ rfl _ _ 64 rfl 3 9 mapKeyed Try.underlying64 _ (strZero _) (.lit (.string [])) [] strNil b2 N D2 rfl H3.out.own _ _ rfl HKEY.out ?_; intro v ps hv; have hg := got_str H3.out.rep _ hv; rw [hg.1, hg.2 (by rw [E.out]; rfl), E.out]; clear hv hg)
      go_ret
      exact ⟨rfl, H.out.more, Chg.refl _ _⟩
    · rw [hput, if_neg h5]
      rw [hput, if_neg h5] at HA
      have E := hid e
      have hll := HV.out.1
      clear e hput hll
      go_enter Try.func59, Try.ntmps59
      go_wp2_with (first
        | (at_lookup; refine wpList_lookup_own_ok _ rfl _ _ 64 rfl 3 9 mapKeyed Try.underlying64 _ (strZero _) (.lit (.string [])) [] strNil b2 N D2 rfl H3.out.own _ _ rfl HKEY.out ?_; intro v ps hv; have hg := got_str H3.out.rep _ hv; rw [hg.1, hg.2 (by rw [E.out]; rfl), E.out]; clear hv hg)
        | (at_make; refine wpList_make_blk rfl _ _ 41 rfl 5 _ 1 1 Try.underlying41 infoU8 _ _ _ _ 504 rfl rfl rfl rfl (by omega) (by simp only [maxLen]; omega) ?_; intro w1 hh1 hb1 hl1; rw [made_bytes] at hh1; have HM := hid hh1; have B1 := hid hb1; clear hh1 hb1)
        | (refine wpList_copy_gen rfl _ _ 41 41 rfl 5 1 Try.underlying41 infoU8' _ _ _ _ rfl _ _ HM.out _ rfl l.length (bv l) ?hr1 ?hr2 (bv_one _) ?_; (case hr1 => exact HV.out.chg (Chg.new B1.out (fun _ => False)) (fun _ _ _ _ h => h)); (case hr2 => rw [bv_length, List.length_replicate]; omega); intro w2 hb2 hc2 hs2; have W2 := hid hb2; have C2 := hid hc2; have S2 := hid hs2; clear hb2 hc2 hs2))
      have C12 : Chg (fun _ => False) w w2 := (Chg.new B1.out (fun _ => False)).trans C2.out (fun i hi e => by omega)
      have P2 := P.out.chg C12 (fun h => h)
      have k52 : w2.drew.cell? ⟨x, 5, none⟩ = some (.map (some b2)) := P2.cell 5
      have hpg : Blk w2 w.heap.size (bv (pad504 l)) 5 := by
        have h := W2.out
        have e : splice (bv (List.replicate 504 0)) 0 ((bv l).take (min l.length 504 * 1)) = bv (pad504 l) := by
          rw [show min l.length 504 * 1 = l.length by omega, List.take_of_length_le (by rw [bv_length]; omega), bv_splice]
          congr 1
          unfold splice pad504
          rw [List.take_zero, List.nil_append, Nat.zero_add, List.drop_replicate]
        rw [e] at h
        exact h
      have hp5 := pad504_length (l := l) (by omega)
      have BS2 := hid (show Bs w2.drew (.slice (some ⟨w.heap.size, 0, none⟩) 504 504) (pad504 l) from Bs.blk (hpg.chg (Chg.drewN (fun _ => False) w2 1) (fun h => h)) hp5.symm (by simp only [maxLen]; omega))
      have strZ := plainElem_string (H := Unit) Try.underlying9 (s := ⟨(pad504 l).toArray⟩) (by show (pad504 l).toArray.size ≤ maxLen; simp [hp5, maxLen])
      refine wp_region_plan (fun w' => w'.cell? ⟨x, 5, none⟩ = some (.map (some b2)) ∧ Bs w' (.slice (some ⟨w.heap.size, 0, none⟩) 504 504) (pad504 l)) (fun j => !([8].contains j)) (fun j => [8].contains j)
        (.of [0, 1, 2, 3, 4, 5, 6, 7, 8]) (by kernel_rfl) (by kernel_rfl) rfl (by kernel_rfl) (by kernel_rfl) ⟨k52, BS2.out⟩ ?_
      iterate 7 (apply wpPlan_val; (case ho => rfl); (case hst => rfl); (case hw => rfl); (case hv => intro w' hS; obtain ⟨hS, _⟩ := hS; go_simp; first | done | rfl); intro K hK; go_simp; refine hK _ ?_; clear hK K)
      apply wpPlan_val
      case ho => rfl
      case hst => rfl
      case hw => rfl
      case hv => intro w' hS; exact exec_bytes_str 41 9 _ rfl 5 Try.underlying41 Try.underlying5 Try.underlying9 (.slice (some ⟨w.heap.size, 0, none⟩) 504 504) (pad504 l) rfl hS.2
      intro K hK; go_simp; refine hK _ ?_; clear hK K
      have C3 := hid ((C12.mono (fun _ _ h => h.elim) : Chg (fun k => k = x) w w2).trans (Chg.drewN (fun k => k = x) w2 1) (fun _ _ h => h))
      have P3 := hid (P2.chg (Chg.drewN (fun _ => False) w2 1) (fun h => h))
      clear k52 BS2 P2 C12 hpg
      refine wpPlan_list rfl rfl rfl (fun K hK => ?_)
      change wpList _ _ _ _ _ (w2.drewN 1)
      refine wpList_mapUpdate_in _ rfl _ _ _ 64 rfl 3 9 mapKeyed Try.underlying64 _ b2 N _ rfl (H3.out.chg C3.out (fun k hk e => h7 (e ▸ hk))).own (by unfold maxLen; omega) _ _ _ rfl rfl HKEY.out _ [] strZ ?_
      intro w5 hown5 hturn5
      have OW5 := hid hown5
      have TU5 := hid ((Chg.grown hturn5.grown).mono (fun k _ h => (Option.some.inj h).symm) : Chg (fun k => k = b2) (w2.drewN 1) w5)
      clear hown5 hturn5
      simp only [wpList]
      refine hK _ _ (fun h => by cases h) ?_
      clear hK K
      refine wpPlan_nil ?_
      simp only [Qn]
      go_wp2_with fail
      go_ret
      have hb2x : x ≠ b2 := fun e => h7 (.inl e)
      have C5 : Chg (fun k => k = x ∨ k = b2) w w5 := (C3.out.mono (fun k _ e => .inl e) : Chg (fun k => k = x ∨ k = b2) w (w2.drewN 1)).trans (TU5.out.mono (fun k _ e => .inr e)) (fun _ _ h => h)
      have hs3 := C5.size
      refine ⟨rfl, ⟨b, gv, D, b2, _, _, P3.out.chg TU5.out hb2x, ?_, ⟨OW5.out, H3.out.rep.put H3.out.own.isMap _ _, own_chg H3.out.row C5 (fun g hg e => e.elim (fun e => h7 (.inr (e ▸ hg))) (fun e => H3.out.ne (e ▸ hg)))⟩, h4.mono (Nat.le_succ _), HA.out.mono (Nat.le_succ _), h6, h7, H8.out, h9, h10, h11, fun q hq => Nat.lt_of_lt_of_le (h12 q hq) hs3⟩, C5.mono (fun k _ e => e.elim (fun e => e ▸ h9) (fun e => e ▸ h11 b2 (.inl rfl)))⟩
      exact (H2.out.chg C5 (fun k hk e => e.elim (fun e => h6 (e ▸ hk)) (fun e => H8.out b2 (.inl rfl) (e ▸ hk)))).mono (Nat.le_succ _)

set_option maxRecDepth 100000 in
set_option maxHeartbeats 4000000 in
theorem XOp.drop {w : World} {x : Nat} {G : Nat → Prop} {n : Nat} {S T : AS} {N : Nat} (h : XOp w x G n S T N) (hN : N ≤ 1000000) (k : Int) (hk : (Lit.int .i64 k).wf = true) :
    Calls Try.prog 60 #[.pointer (some ⟨x, 0, none⟩), .int .i64 k] w fun e w' => e = .returned (.int .i64 (dropA T k).1) ∧ ∃ G', XOp w' x G' n S (dropA T k).2 (N + 1) ∧ Chg G w w' ∧ ∀ k, G' k → G k ∨ w.heap.size ≤ k := by
  have H := hid h
  obtain ⟨b, gv, D, b2, gv2, D2, h1, h2, h3, h4, h5, h6, h7, h8, h9, h10, h11, h12⟩ := h
  obtain ⟨gp2, gc2, rfl⟩ := own_shape h3.row
  have k9 : w.cell? ⟨x, 9, none⟩ = some (.bool true) := h1.cell 9
  have k5 : w.cell? ⟨x, 5, none⟩ = some (.map (some b2)) := h1.cell 5
  have P := hid h1
  have H2 := hid h2
  have H3 := hid h3
  have HA := hid (h5.drop k)
  have H8 := hid h8
  have H10 := hid h10
  have H11 := hid h11
  have hfew := h5.few
  have HKEY := hid (show keyOf Try.prog 3 (.int .i64 k) = some (.int .i64 k) from keyOf_int_mk Try.underlying3 hk)
  clear h1 h2 h3 h5 h8 hk h10 h11
  rcases e : T.B k with _ | l0
  · rw [show dropA T k = (1, T) from if_neg (by rw [e]; simp)]
    have E := hid e
    clear e
    go_enter Try.func60, Try.ntmps60
    go_wp2_with (at_lookup; refine wpList_lookup_own_ok _ rfl _ _ 64 rfl 3 9 mapKeyed Try.underlying64 _ (strZero _) (.lit (.string [])) [] strNil b2 N D2 rfl H3.out.own _ _ rfl HKEY.out ?_; intro v ps hv; rw [(got_str H3.out.rep _ hv).1, E.out]; clear hv)
    go_ret
    exact ⟨rfl, G, H.out.more, Chg.refl _ _, fun k hk => .inl hk⟩
  · have hdrop : dropA T k = (0, { T with gone := k :: T.gone }.set k none) := if_pos (by rw [e]; rfl)
    rw [hdrop]
    rw [hdrop] at HA
    have E := hid e
    clear e hdrop
    go_enter Try.func60, Try.ntmps60
    go_wp2_with (first
      | (at_lookup; refine wpList_lookup_own_ok _ rfl _ _ 64 rfl 3 9 mapKeyed Try.underlying64 _ (strZero _) (.lit (.string [])) [] strNil b2 N D2 rfl H3.out.own _ _ rfl HKEY.out ?_; intro v ps hv; have hg := got_str H3.out.rep _ hv; rw [hg.1, hg.2 (by rw [E.out]; rfl), E.out]; clear hv hg)
      | (at_delete; refine wpList_delete_own _ rfl _ _ 64 3 rfl 9 mapKeyed Try.underlying64 _ b2 N D2 rfl H3.out.own _ _ rfl HKEY.out ?_; intro w1 hown1 hturn1; have OW1 := hid hown1; have TU1 := hid ((Chg.grown hturn1.grown).mono (fun k _ h => (Option.some.inj h).symm) : Chg (fun k => k = b2) w w1); have P1 := hid (P.out.chg TU1.out (fun e => h7 (.inl e))); have k61 : w1.cell? ⟨x, 6, none⟩ = some (.slice gp2 T.gone.length gc2) := P1.out.cell 6; clear hown1 hturn1)
      | (at_builtin; refine wp_keep ?_))
    refine hid ?_
    have hrow1 := own_chg H3.out.row TU1.out (fun g hg e => H3.out.ne (e ▸ hg))
    have hba : Below w1.heap.size w1 (w1.alloc (Obj.cells #[Value.int .i64 k] 3)) := (Below.refl _ _).alloc (Nat.le_refl _) _
    have hza : (w1.alloc (Obj.cells #[Value.int .i64 k] 3)).heap.size = w1.heap.size + 1 := by simp
    have hrowa := own_chg hrow1 (Chg.new hba (fun _ => False)) (fun _ _ h => h)
    have hrda := Rd.fresh1 w1 (Value.int .i64 k) 3
    generalize w1.alloc (Obj.cells #[Value.int .i64 k] 3) = wa at *
    refine wpList_append_rd rfl _ _ 28 rfl 0 3 (.int .i64 0) 1 8 Try.underlying28 intInfo4 rfl (by decide) (.slice gp2 T.gone.length gc2) T.gone.length _ rfl hrowa _ 1 _ rfl hrda (by simp [Value.oneCell']) (by simp only [maxLen]; omega) (by omega) (Nat.zero_le _) ?_
    intro p4 c4 w4 hown4 hg4 hb4
    have C4 : Chg (fun q => Value.ownBlock (.slice gp2 T.gone.length gc2) = some q) wa w4 := Chg.grown hg4
    have P4 := (P1.out.chg (Chg.new hba (fun _ => False)) (fun h => h)).chg C4 (fun e => h7 (.inr e))
    have k64 : w4.cell? ⟨x, 6, none⟩ = some (.slice gp2 T.gone.length gc2) := P4.cell 6
    have f64 := P4.frozen 6
    have PP4 := hid P4
    have OW4 := hid (show w4.ownsMap Try.prog 3 (plainElem (H := Unit) Try.prog 9) b2 N (D2.del (.int .i64 k)) from by
      obtain ⟨es, cl, h8', h9'⟩ := OW1.out
      exact ⟨es, cl, C4.heap ((Chg.new hba (fun _ => False)).heap h8' (fun h => h)) (fun e => H3.out.ne e), h9'⟩)
    have RO4 := hid hown4
    have CW4 := hid (((TU1.out.mono (fun k _ e => (.inr (.inl e) : k = x ∨ stBl b2 (.slice gp2 T.gone.length gc2) k)) : Chg (fun k => k = x ∨ stBl b2 (.slice gp2 T.gone.length gc2) k) w w1).trans (Chg.new hba _) (fun _ _ h => h)).trans (C4.mono (fun k _ e => (.inr (.inr e) : k = x ∨ stBl b2 (.slice gp2 T.gone.length gc2) k))) (fun _ _ h => h))
    have NB4 : Hid (∀ q, Value.ownBlock (.slice p4 (T.gone.length + 1) c4) = some q → Value.ownBlock (.slice gp2 T.gone.length gc2) = some q ∨ (w.heap.size ≤ q ∧ q < w4.heap.size)) := hid (fun q hq => by
      rcases hb4 with e | e
      · exact .inl (e ▸ hq)
      · refine .inr ⟨?_, (hown4.lt q hq).2⟩
        rw [e] at hq
        injection hq with hq
        have := TU1.out.size
        omega)
    have hw14 := C4.size
    clear P4 C4 hown4 hg4 hb4 hrda hrowa hrow1 hba k61
    go_wp2_with fail
    go_ret
    have hc5 : Chg (fun k => k = x) w4 (w4.setCell ⟨x, 6, none⟩ (.slice p4 (T.gone.length + 1) c4)) := Chg.setCell (fp := fun k => k = x) _ rfl _
    have P5 := PP4.out.set 6 (.slice p4 (T.gone.length + 1) c4)
    generalize w4.setCell ⟨x, 6, none⟩ (.slice p4 (T.gone.length + 1) c4) = w5 at *
    have C5 := CW4.out.trans (hc5.mono (fun k _ e => (.inl e : k = x ∨ stBl b2 (.slice gp2 T.gone.length gc2) k))) (fun _ _ h => h)
    have hx := PP4.out.lt
    have hx0 : x < w.heap.size := P.out.lt
    have hnx : Value.ownBlock (.slice p4 (T.gone.length + 1) c4) ≠ some x := fun e => by
      rcases NB4.out x e with h | h
      · exact h7 (.inr h)
      · omega
    have hb2lt := H3.out.own.lt
    refine ⟨rfl, fun q => G q ∨ Value.ownBlock (.slice p4 (T.gone.length + 1) c4) = some q, ⟨b, gv, D, b2, .slice p4 (T.gone.length + 1) c4, _, P5, ?_, ⟨?_, H3.out.rep.del _, ?_⟩, h4.mono (Nat.le_succ _), HA.out, h6, ?_, ?_, .inl h9, fun q hq => .inl (H10.out q hq), ?_, ?_⟩, C5.mono (fun q _ hq => ?_), ?_⟩
    · exact (H2.out.chg C5 (fun q hq e => e.elim (fun e => h6 (e ▸ hq)) (fun e => H8.out q e hq))).mono (Nat.le_succ _)
    · obtain ⟨es, cl, h8', h9'⟩ := OW4.out.mono (Nat.le_succ _)
      exact ⟨es, cl, hc5.heap h8' (fun e => h7 (.inl e.symm)), h9'⟩
    · have h13 := own_chg RO4.out hc5 (fun g hg e => hnx (e ▸ hg))
      simp only [AS.set, List.length_cons, List.reverse_cons, List.map_append, List.map_cons, List.map_nil]
      exact h13
    · rintro (h | h)
      · exact h7 (.inl h)
      · exact hnx h
    · rintro q (rfl | hq) hq2
      · exact H8.out q (.inl rfl) hq2
      · rcases NB4.out q hq with h | h
        · exact H8.out q (.inr h) hq2
        · have := H2.out.lt q hq2; omega
    · rintro q (rfl | hq)
      · exact .inl (H11.out q (.inl rfl))
      · exact .inr hq
    · rintro q (hq | hq)
      · exact Nat.lt_of_lt_of_le (h12 q hq) C5.size
      · exact Nat.lt_of_lt_of_le (RO4.out.lt q hq).2 hc5.size
    · rcases hq with rfl | hq
      · exact h9
      · exact H11.out q hq
    · rintro q (hq | hq)
      · exact .inl hq
      · exact (NB4.out q hq).imp (fun h => H11.out q (.inr h)) (fun h => h.1)
end Go.Proofs.Ytiphekepglihlaa
