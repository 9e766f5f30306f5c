/- Words on memory for walks: what is read through a slice, what a call may have changed, and append over them. -/
import Derived.WalkKit
import Derived.WalkLawsBesides
import Derived.WalkMore
import Derived.ScopeJumps
import Derived.Laws.CopyOwn
import Derived.Laws.AppendOwnNone
import Derived.Handy
import Derived.Laws.MakeOwn
import Derived.Laws.OwnMore
import Derived.OwnWalk
import Derived.Deep.QuietTactic
import Derived.BigQuiet
import Derived.Lib.AppendStr
import Derived.Laws.IdiomStrings
import Derived.Laws.BytesArg
import Derived.Deep.LoopGhost
namespace Go.Proofs.Ytdilkgcoecipjaa
open Go.RowKit
set_option linter.unusedVariables false

/-- a fact kept from the walk -/
theorem hid {p : Prop} (h : p) : Hid p := h

/-- what differs between two worlds lies in the blocks of fp, or is new -/
structure Chg (fp : Nat → Prop) (w w' : World) : Prop where
  os : w'.os = w.os
  tape : w'.tape = w.tape
  output : w'.output = w.output
  size : w.heap.size ≤ w'.heap.size
  block : ∀ k, k < w.heap.size → ¬ fp k → w'.heap[k]? = w.heap[k]?

def NoFp : Nat → Prop := fun _ => False

theorem Chg.refl (fp : Nat → Prop) (w : World) : Chg fp w w := ⟨rfl, rfl, rfl, Nat.le_refl _, fun _ _ _ => rfl⟩
theorem Chg.mono {fp fq : Nat → Prop} {w w' : World} (h : Chg fp w w') (hm : ∀ k, k < w.heap.size → fp k → fq k) : Chg fq w w' :=
  ⟨h.os, h.tape, h.output, h.size, fun k hk hn => h.block k hk fun hf => hn (hm k hk hf)⟩
theorem Chg.trans {fp fq : Nat → Prop} {a b c : World} (h : Chg fp a b) (k : Chg fq b c) (hq : ∀ i, i < a.heap.size → fq i → fp i) : Chg fp a c :=
  ⟨k.os.trans h.os, k.tape.trans h.tape, k.output.trans h.output, Nat.le_trans h.size k.size,
    fun i hi hn => (k.block i (Nat.lt_of_lt_of_le hi h.size) fun hf => hn (hq i hi hf)).trans (h.block i hi hn)⟩
theorem Chg.below {fp : Nat → Prop} {w w' : World} {B : Nat} (h : Chg fp w w') (hB : ∀ k, fp k → B ≤ k) (hs : B ≤ w.heap.size) : Below B w w' :=
  ⟨h.os, h.tape, h.output, h.size, fun k hk => h.block k (by omega) fun hf => by have := hB k hf; omega⟩
theorem Chg.of_below {w w' : World} {B : Nat} (h : Below B w w') {fp : Nat → Prop} (hB : ∀ k, k < w.heap.size → B ≤ k → fp k) : Chg fp w w' :=
  ⟨h.os, h.tape, h.output, h.size, fun k hk hn => h.block k (Nat.lt_of_not_le fun hb => hn (hB k hk hb))⟩
theorem Chg.new {w w' : World} (h : Below w.heap.size w w') (fp : Nat → Prop) : Chg fp w w' :=
  Chg.of_below h fun _ hk hb => by omega
theorem Chg.alloc (fp : Nat → Prop) (w : World) (o : Obj) : Chg fp w (w.alloc o) :=
  ⟨rfl, rfl, rfl, by simp, fun k hk _ => Below.heap_alloc _ _ _ hk⟩
theorem Chg.setCell {fp : Nat → Prop} (w : World) {a : Addr} (h : fp a.block) (v : Value) : Chg fp w (w.setCell a v) :=
  ⟨rfl, rfl, rfl, by simp [World.setCell], fun k _ hn => Below.heap_setCell _ _ _ _ (by rintro rfl; exact hn h)⟩
theorem Chg.setRow {fp : Nat → Prop} (w : World) {g : Nat} (h : fp g) (cs : Array Value) : Chg fp w (w.setRow g cs) :=
  ⟨rfl, rfl, rfl, by simp, fun k _ hn => setRow_other w g k cs (by rintro rfl; exact hn h)⟩
theorem Chg.drewN (fp : Nat → Prop) (w : World) (n : Nat) : Chg fp w (w.drewN n) := ⟨rfl, rfl, rfl, Nat.le_refl _, fun _ _ _ => rfl⟩
theorem Chg.drewN' {fp : Nat → Prop} {w w' : World} {n : Nat} (h : Chg fp (w.drewN n) w') : Chg fp w w' := ⟨h.os, h.tape, h.output, h.size, h.block⟩
theorem Chg.heap {fp : Nat → Prop} {w w' : World} (h : Chg fp w w') {k : Nat} {o : Obj} (hk : w.heap[k]? = some o) (hn : ¬ fp k) : w'.heap[k]? = some o :=
  (h.block k (Array.getElem?_eq_some_iff.1 hk).1 hn).trans hk

/-- the cells that a slice leads to -/
def Rd (w : World) (size : Nat) (v : Value) (n : Nat) (xs : List Value) : Prop :=
  xs.length = n * size ∧ ∃ p cap, v = .slice p n cap ∧ n ≤ cap ∧ cap ≤ maxLen ∧ (p = none → cap = 0) ∧
    ∀ a, p = some a → ∀ j u, xs[j]? = some u → a.spot = none ∧ w.cell? ⟨a.block, a.off + j, none⟩ = some u

theorem Rd.nil (w : World) (size : Nat) : Rd w size (.slice none 0 0) 0 [] :=
  ⟨by simp, none, 0, rfl, Nat.le_refl _, by simp [maxLen], fun _ => rfl, fun a h => by cases h⟩

theorem Rd.below {w w' : World} {B size n : Nat} {v : Value} {xs : List Value} (h : Rd w size v n xs) (hb : Below B w w')
    (hB : ∀ g, v.ownBlock = some g → g < B) : Rd w' size v n xs := by
  obtain ⟨hl, p, cap, rfl, h1, h2, h3, h4⟩ := h
  refine ⟨hl, p, cap, rfl, h1, h2, h3, fun a ha j u hu => ⟨(h4 a ha j u hu).1, ?_⟩⟩
  subst ha
  exact (hb.cell (p := ⟨a.block, a.off + j, none⟩) (hB a.block rfl)).trans ((h4 a rfl j u hu).2)

theorem Rd.lt {w : World} {size n : Nat} {v : Value} {xs : List Value} (h : Rd w size v n xs) (hn : 0 < n) (hs : 0 < size) : ∀ g, v.ownBlock = some g → g < w.heap.size := by
  obtain ⟨hl, p, cap, rfl, h1, h2, h3, h4⟩ := h
  intro g hg
  cases p with
  | none => simp [Value.ownBlock] at hg
  | some a =>
    have hg' : a.block = g := by simpa [Value.ownBlock] using hg
    have hlen : 0 < xs.length := by rw [hl]; exact Nat.mul_pos hn hs
    have hc := (h4 a rfl 0 _ (List.getElem?_eq_getElem hlen)).2
    have h9 : a.block < w.heap.size := World.block_lt_of_cell? w ⟨a.block, a.off + 0, none⟩ hc
    rw [← hg']; exact h9

theorem Rd.chg {w w' : World} {fp : Nat → Prop} {size n : Nat} {v : Value} {xs : List Value} (h : Rd w size v n xs) (hb : Chg fp w w')
    (hB : 0 < n → ∀ g, v.ownBlock = some g → g < w.heap.size → ¬ fp g) : Rd w' size v n xs := by
  obtain ⟨hl, p, cap, rfl, h1, h2, h3, h4⟩ := h
  refine ⟨hl, p, cap, rfl, h1, h2, h3, fun a ha j u hu => ⟨(h4 a ha j u hu).1, ?_⟩⟩
  subst ha
  have hc := (h4 a rfl j u hu).2
  have hlt := World.block_lt_of_cell? w ⟨a.block, a.off + j, none⟩ hc
  have hn : 0 < n := by
    cases n with
    | zero => simp at hl; subst hl; simp at hu
    | succ k => omega
  exact (World.cell?_of_block (w := w) (a := ⟨a.block, a.off + j, none⟩) (hb.block a.block hlt (hB hn a.block rfl hlt))).trans hc

theorem Rd.new {w w' : World} {size n : Nat} {v : Value} {xs : List Value} (h : Rd w size v n xs) (hb : Below w.heap.size w w') : Rd w' size v n xs :=
  h.chg (Chg.new hb NoFp) fun _ _ _ _ hf => hf

theorem Rd.of_own {w : World} {base e size n : Nat} {v : Value} {xs : List Value} (h : w.ownsRow base e size v n xs) : Rd w size v n xs := by
  refine ⟨h.1, ?_⟩
  rcases h.2 with ⟨rfl, rfl⟩ | ⟨g, cap, cur, rfl, hbg, hg, hnc, hcm, hcs, htake⟩
  · exact ⟨none, 0, rfl, Nat.le_refl _, by simp [maxLen], fun _ => rfl, fun a h => by cases h⟩
  · refine ⟨_, cap, rfl, hnc, hcm, (fun h => by cases h), fun a ha j u hu => ?_⟩
    cases ha
    refine ⟨rfl, ?_⟩
    have := h.cells (g := g) rfl j u hu
    have hadd : (⟨g, 0, none⟩ : Addr).add j = ⟨g, j, none⟩ := by unfold Addr.add; split <;> simp_all
    rw [hadd] at this
    simpa using this

theorem Rd.addr {w : World} {size n m cap : Nat} {a : Option Addr} {xs : List Value} (h : Rd w size (.slice a m cap) n xs) (hn : 0 < n) (hsz : 0 < size := by decide) :
    ∃ b off, a = some ⟨b, off, none⟩ ∧ ∀ j u, xs[j]? = some u → w.cell? ⟨b, off + j, none⟩ = some u := by
  obtain ⟨hl, p, c, he, h1, _, h2, h3⟩ := h
  cases he
  cases a with
  | none => have := h2 rfl; omega
  | some ad =>
    by_cases hs : ad.spot = none
    · obtain ⟨b, off, spot⟩ := ad
      cases hs
      exact ⟨b, off, rfl, fun j u hu => (h3 _ rfl j u hu).2⟩
    · refine absurd ?_ hs
      have hx : 0 < xs.length := by
        cases hxs : xs with
        | nil => exact absurd (by simpa [hxs] using hl) (by have := Nat.mul_pos hn hsz; omega)
        | cons _ _ => simp
      exact (h3 ad rfl 0 _ (List.getElem?_eq_getElem hx)).1

theorem Addr.add_off (a : Addr) (h : a.spot = none) (j : Nat) : a.add j = ⟨a.block, a.off + j, none⟩ := by
  unfold Addr.add
  split
  · subst j; cases a; simp_all
  · rfl

section
variable {P : Program}

/-- append onto a slice of one's own, from any slice that can be read -/
theorem run_append_rd (w : World) (base : Nat) (t ty e : TypeId) (z : Value) (size bytes : Nat) (ht : P.underlying t = some (.slice e))
    (hinf : (P.info? e).map (fun i => (i.zero, i.size, i.bytes)) = some (some z, size, bytes)) (hzs : z.cells.size = size) (hsz : 0 < size)
    (v : Value) (n : Nat) (xs : List Value) (hown : w.ownsRow base e size v n xs)
    (x : Value) (m : Nat) (news : List Value) (hrd : Rd w size x m news) (h1 : ∀ u ∈ news, u.oneCell' = true)
    (h63 : n + m ≤ maxLen) (hbytes : (n + m) * bytes ≤ 140737488355328) (hbase : base ≤ w.heap.size) :
    ∃ v' w', (Builtin.append_ #[t, t] ty #[v, x]).run P w = .ok v' w' ∧ w'.ownsRow base e size v' (n + m) (xs ++ news) ∧ w.grownBy w' v.ownBlock ∧
      (v'.ownBlock = v.ownBlock ∨ v'.ownBlock = some w.heap.size) := by
  obtain ⟨i, hi, hz, rfl, rfl⟩ := info_parts hinf
  obtain ⟨hl, p, cap, rfl, hmc, hcm, hp0, hp⟩ := hrd
  have hsmall : n + m ≤ 9223372036854775807 := by simp only [maxLen] at h63; omega
  cases p with
  | none =>
    obtain rfl := hp0 rfl
    obtain rfl : m = 0 := by omega
    obtain rfl : news = [] := List.eq_nil_of_length_eq_zero (by simpa using hl)
    have hrun := run_append_owned_none (P := P) (w := w) base t ty e i i.size ht hi v n xs hown
    exact ⟨v, w, hrun, by simpa using hown, World.grownBy.refl _ _, .inl rfl⟩
  | some a =>
    have hnews : ∀ j u, news[j]? = some u → w.cell? (a.add j) = some u := fun j u hu => by
      rw [Addr.add_off a (hp a rfl j u hu).1]; exact (hp a rfl j u hu).2
    have hlen : (xs ++ news).length = (n + m) * i.size := by rw [List.length_append, hown.1, hl, Nat.add_mul]
    have grown : ∀ (old : Nat), old < n + m → ∀ (row : Option Nat),
        (w.drew.alloc (.cells (xs.toArray ++ news.toArray ++ Builtin.zeroCells z.cells (grownCap w (n + m) old e - (n + m))) e)).ownsRow base e i.size
          (.slice (some ⟨w.heap.size, 0, none⟩) (n + m) (grownCap w (n + m) old e)) (n + m) (xs ++ news) ∧
        w.grownBy (w.drew.alloc (.cells (xs.toArray ++ news.toArray ++ Builtin.zeroCells z.cells (grownCap w (n + m) old e - (n + m))) e)) row := by
      intro old ho row
      have hge := grownCap_ge w (n + m) old e
      have hcm : grownCap w (n + m) old e ≤ maxLen := grownCap_le_maxLen w (n + m) old e h63
      refine ⟨⟨hlen, .inr ⟨w.heap.size, _, _, rfl, hbase, heap_alloc_new w.drew _, hge, hcm, ?_, ?_⟩⟩, ⟨rfl, rfl, rfl, by simp, fun k hk _ => Below.heap_alloc w.drew _ k hk⟩⟩
      · simp only [Array.size_append, List.size_toArray, size_zeroCells, hzs, hown.1, hl, ← Nat.add_mul]
        congr 1
        omega
      · simp only [Array.toList_append, List.append_assoc]
        rw [← List.append_assoc, ← hlen]
        exact List.take_left
    rcases hown.2 with ⟨rfl, rfl⟩ | ⟨g, cap', cur, rfl, hbg, hg, hnc, hcm', hcs, htake⟩
    · have hx : xs = [] := List.eq_nil_of_length_eq_zero (by simpa using hown.1)
      subst hx
      by_cases hm : m = 0
      · subst hm
        have hn : news = [] := List.eq_nil_of_length_eq_zero (by simpa using hl)
        subst hn
        refine ⟨.slice none 0 0, w, ?_, World.ownsRow_nil w base e i.size, World.grownBy.refl _ _, .inl rfl⟩
        simp [Builtin.append_, run_underlying ht, sizeOf, typeInfo, hi, Builtin.lenOf, Builtin.firstCells, loadCells, loadCellsFrom]
      · have hr := run_append_nil (P := P) w t ty e i z ht hi hz a m cap news hl hnews (by omega) (by omega) (by have hb := hbytes; simp only [Nat.zero_add] at hb; omega)
        have hgr := grown 0 (by omega) (Value.ownBlock (.slice none 0 0))
        simp only [Nat.zero_add, List.nil_append, Array.empty_append] at hgr ⊢
        exact ⟨_, _, hr, hgr.1, hgr.2, .inr rfl⟩
    · by_cases hroom : n + m ≤ cap'
      · have hfit : n * i.size + news.length ≤ cur.size := by rw [hl, hcs, ← Nat.add_mul]; exact Nat.mul_le_mul_right _ hroom
        have hr := run_append_room (P := P) w t ty e i ht hi g n cap' cur hg a m cap news hl hnews h1 hroom hfit
        refine ⟨_, _, hr, ⟨hlen, .inr ⟨g, cap', _, rfl, hbg, setRow_heap w g cur _ e _ hg, hroom, hcm', ?_, ?_⟩⟩, ⟨rfl, rfl, rfl, by simp, fun k _ hk => setRow_other w g k _ (fun e => hk (by simp [Value.ownBlock, e]))⟩, .inl rfl⟩
        · simp only [List.size_toArray, List.length_append, List.length_take, List.length_drop, Array.length_toList]
          omega
        · rw [htake, ← hlen]
          exact List.take_left
      · have holds : ∀ j u, xs[j]? = some u → w.cell? ((⟨g, 0, none⟩ : Addr).add j) = some u := hown.cells (g := g) rfl
        have hr := run_append_grow (P := P) w t ty e i z ht hi hz ⟨g, 0, none⟩ n cap' xs hown.1 holds a m cap news hl hnews (by omega) (by omega) (growslice_fits (by omega) hbytes)
        have hgr := grown cap' (by omega) (Value.ownBlock (.slice (some ⟨g, 0, none⟩) n cap'))
        exact ⟨_, _, hr, hgr.1, hgr.2, .inr rfl⟩

theorem wpList_append_rd {w : World} {ops : Array Oper} {rest : List Oper} {o : Oper} {a : Act} {Q : Exit → Act → World → Prop} (hgd : o.guard = none) (s x : Operand) (t : TypeId)
    (ho : o.op = .call { callee := .builtin .append, args := #[s, x], argTypes := #[t, t] })
    (base : Nat) (e : TypeId) (z : Value) (size bytes : Nat) (ht : P.underlying t = some (.slice e))
    (hinf : (P.info? e).map (fun i => (i.zero, i.size, i.bytes)) = some (some z, size, bytes)) (hzs : z.cells.size = size) (hsz : 0 < size)
    (v : Value) (n : Nat) (xs : List Value) (hs : a.eval s = v) (hown : w.ownsRow base e size v n xs)
    (xv : Value) (m : Nat) (news : List Value) (hx : a.eval x = xv) (hrd : Rd w size xv m news) (h1 : ∀ u ∈ news, u.oneCell' = true)
    (h63 : n + m ≤ maxLen) (hbytes : (n + m) * bytes ≤ 140737488355328) (hbase : base ≤ w.heap.size)
    (h : ∀ (p' : Option Addr) (c' : Nat) w', w'.ownsRow base e size (.slice p' (n + m) c') (n + m) (xs ++ news) → w.grownBy w' v.ownBlock → (Value.ownBlock (.slice p' (n + m) c') = v.ownBlock ∨ Value.ownBlock (.slice p' (n + m) c') = some w.heap.size) → wpList P ops Q rest (a.put o.dst (.slice p' (n + m) c')) w') :
    wpList P ops Q (o :: rest) a w := by
  refine wpList_plain hgd fun K hK => ?_
  obtain ⟨v', w', hr, h2, h3, h4⟩ := run_append_rd (P := P) w base t o.type e z size bytes ht hinf hzs hsz v n xs hown xv m news hrd h1 h63 hbytes hbase
  unfold Oper.wp execOp
  simp only [ho, resolve, invoke, builtin, Sem.run_bind, Sem.run_pure, Result.andThen_ok, List.map_toArray, List.map_cons, List.map_nil, hs, hx, hr]
  obtain ⟨p', c', rfl⟩ : ∃ p' c', v' = .slice p' (n + m) c' := by
    rcases h2.2 with ⟨h5, h6⟩ | ⟨g, cap, cur, h5, _⟩
    · exact ⟨none, 0, by rw [h5, h6]⟩
    · exact ⟨_, _, h5⟩
  exact hK _ _ (h p' c' w' h2 h3 h4)
end

section
variable {Q : Exit → Act → World → Prop} {a : Act} {w : World} {J : Act → World → Prop} {l : Nat}
@[go_sem] theorem Exit.jump_normal : Exit.jump l J Q .normal a w = Q .normal a w := rfl
@[go_sem] theorem Exit.jump_exit (id : Nat) : Exit.jump l J Q (.exit id) a w = Q (.exit id) a w := rfl
@[go_sem] theorem Exit.jump_ret : Exit.jump l J Q .ret a w = Q .ret a w := rfl
@[go_sem] theorem Exit.jump_panic (ch : List PanicEntry) : Exit.jump l J Q (.panic ch) a w = Q (.panic ch) a w := rfl

/-- a scope whose code jumps back to one label: what holds there, with a number that falls -/
theorem wp_scope_goto {P : Program} {c rest : Code} (l : Nat) (J : Nat → Act → World → Prop) (hf : findLabel c l = some (.seq .skip rest))
    (pass : ∀ n a w, J n a w → ∀ K : Act → World → Prop, (∀ n' a' w', n' < n → J n' a' w' → K a' w') → rest.wp P (Exit.jump l K Q) a w)
    (first : ∀ K : Act → World → Prop, (∀ n a w, J n a w → rest.wp P (Exit.jump l K Q) a w) → c.wp P (Exit.jump l K Q) a w) : (Code.scope c).wp P Q a w := by
  refine wp_scope_jumps l (fun a w => ∃ n, J n a w) (fun a w => leastOf (fun n => J n a w)) hf ?_ (fun a w h => wp_seq (wp_skip ?_))
  · exact first _ fun n a w h => pass n a w h _ fun n' a' w' _ h' => ⟨n', h'⟩
  · show rest.wp P _ a w
    refine pass _ a w (leastOf_spec h).1 _ fun n' a' w' hlt h' => ⟨⟨n', h'⟩, ?_⟩
    exact Nat.lt_of_le_of_lt ((leastOf_spec ⟨n', h'⟩).2 n' h') hlt
end

/-- a slice's bound: left out, or a number -/
def Bnd (a : Act) (o : Option Operand) (dflt n : Nat) : Prop :=
  match o with
  | none => n = dflt
  | some x => ∃ k, ∃ i : Int, a.eval x = .int k i ∧ 0 ≤ i ∧ i.toNat = n

section
variable {P : Program}
theorem run_slice_rd (w : World) (t : TypeId) (e : TypeId) (size : Nat) (ht : P.underlying t = some (.slice e)) (hsz : (P.info? e).map (·.size) = some size)
    (p : Option Addr) (n cap lo hi : Nat) (hp0 : p = none → cap = 0) (h1 : lo ≤ hi) (h2 : hi ≤ cap) (l h : Option Value)
    (hl : (l = none ∧ lo = 0) ∨ ∃ k, l = some (.int k (lo : Int))) (hh : (h = none ∧ hi = n) ∨ ∃ k, h = some (.int k (hi : Int))) :
    (Instr.sliceAt t (.slice p n cap) l h none).run P w = .ok (.slice (if cap = lo then p else p.map (·.add (lo * size))) (hi - lo) (cap - lo)) w := by
  obtain ⟨i, hi', rfl⟩ := Option.map_eq_some_iff.1 hsz
  have he : P.elem t = e := by simp [Program.elem, ht]
  rw [run_sliceAt_slice (P := P) w t _ l h none (by rw [he]; exact ht)]
  have hso : (sizeOf e).run P w = .ok i.size w := by simp [sizeOf, typeInfo, hi']
  have hbl : ∀ k code, (Instr.sliceBound (.int k (lo : Int)) hi code).run P w = .ok lo w := fun k code => by
    rw [run_sliceBound _ _ _ _ _ (by omega) (by omega)]; simp
  have hbh : ∀ k code, (Instr.sliceBound (.int k (hi : Int)) cap code).run P w = .ok hi w := fun k code => by
    rw [run_sliceBound _ _ _ _ _ (by omega) (by omega)]; simp
  rcases hl with ⟨rfl, rfl⟩ | ⟨kl, rfl⟩ <;> rcases hh with ⟨rfl, rfl⟩ | ⟨kh, rfl⟩ <;>
    simp [Instr.slice, run_underlying ht, Instr.sliceBounds, hso, hbl, hbh]

theorem slice_rd_of (w : World) (size : Nat) (p : Option Addr) (n cap : Nat) (xs : List Value) (hrd : Rd w size (.slice p n cap) n xs) (lo hi : Nat) (h1 : lo ≤ hi) (h2 : hi ≤ n) :
    Rd w size (.slice (if cap = lo then p else p.map (·.add (lo * size))) (hi - lo) (cap - lo)) (hi - lo) ((xs.drop (lo * size)).take ((hi - lo) * size)) ∧
    Value.ownBlock (.slice (if cap = lo then p else p.map (·.add (lo * size))) (hi - lo) (cap - lo)) = Value.ownBlock (.slice p n cap) := by
  obtain ⟨hl, p', cap', he, h3, h4, h5, h6⟩ := hrd
  cases he
  have hle : hi * size ≤ n * size := Nat.mul_le_mul_right _ h2
  have hsub : (hi - lo) * size = hi * size - lo * size := Nat.sub_mul _ _ _
  refine ⟨⟨?_, _, _, rfl, by omega, by omega, ?_, ?_⟩, ?_⟩
  · rw [List.length_take, List.length_drop, hl, hsub]; omega
  · intro hn
    by_cases hc : cap = lo
    · omega
    · rw [if_neg hc] at hn
      have := h5 (by simpa using hn)
      omega
  · intro a ha
    by_cases hc : cap = lo
    · have : hi - lo = 0 := by omega
      intro j u hu
      simp [this] at hu
    · rw [if_neg hc] at ha
      obtain ⟨b, rfl, rfl⟩ := Option.map_eq_some_iff.1 ha
      intro j u hu
      rw [List.getElem?_take] at hu
      split at hu
      · rw [List.getElem?_drop] at hu
        obtain ⟨hs, hcell⟩ := h6 b rfl _ _ hu
        rw [Addr.add_off b hs]
        exact ⟨rfl, by simpa [Nat.add_assoc] using hcell⟩
      · cases hu
  · by_cases hc : cap = lo
    · rw [if_pos hc]; cases p <;> rfl
    · rw [if_neg hc]
      cases p with
      | none => rfl
      | some b => simp [Value.ownBlock, Addr.add]; split <;> rfl

theorem wpList_slice_rd {w : World} {ops : Array Oper} {rest : List Oper} {o : Oper} {a : Act} {Q : Exit → Act → World → Prop} (hgd : o.guard = none) (t : TypeId) (x : Operand) (l h : Option Operand)
    (ho : o.op = .slice t x l h none) (e : TypeId) (size : Nat) (ht : P.underlying t = some (.slice e)) (hsz : (P.info? e).map (·.size) = some size)
    (v : Value) (n : Nat) (xs : List Value) (hx : a.eval x = v) (hrd : Rd w size v n xs) (lo hi : Nat) (hl : Bnd a l 0 lo) (hh : Bnd a h n hi) (h1 : lo ≤ hi) (h2 : hi ≤ n)
    (hK : ∀ (p' : Option Addr) (c' : Nat), Rd w size (.slice p' (hi - lo) c') (hi - lo) ((xs.drop (lo * size)).take ((hi - lo) * size)) → Value.ownBlock (.slice p' (hi - lo) c') = v.ownBlock → wpList P ops Q rest (a.put o.dst (.slice p' (hi - lo) c')) w) :
    wpList P ops Q (o :: rest) a w := by
  refine wpList_plain hgd fun K hK' => ?_
  have hrd' := hrd
  obtain ⟨hlen, p, cap, rfl, h3, h4, h5, h6⟩ := hrd
  have hl' : (l.map a.eval = none ∧ lo = 0) ∨ ∃ k, l.map a.eval = some (.int k (lo : Int)) := by
    cases l with
    | none => exact .inl ⟨rfl, hl⟩
    | some y => obtain ⟨k, i, h7, h8, h9⟩ := hl; exact .inr ⟨k, by simp [h7, ← h9, Int.toNat_of_nonneg h8]⟩
  have hh' : (h.map a.eval = none ∧ hi = n) ∨ ∃ k, h.map a.eval = some (.int k (hi : Int)) := by
    cases h with
    | none => exact .inl ⟨rfl, hh⟩
    | some y => obtain ⟨k, i, h7, h8, h9⟩ := hh; exact .inr ⟨k, by simp [h7, ← h9, Int.toNat_of_nonneg h8]⟩
  have hr := run_slice_rd (P := P) w t e size ht hsz p n cap lo hi h5 h1 (by omega) _ _ hl' hh'
  obtain ⟨r1, r2⟩ := slice_rd_of w size p n cap xs hrd' lo hi h1 h2
  unfold Oper.wp execOp
  simp only [ho, hx, Option.map_none, hr, Sem.run_bind, Sem.run_pure, Result.andThen_ok]
  exact hK' _ _ (hK _ _ r1 r2)
end

/-- bytes as cells -/
def bv (l : List UInt8) : List Value := l.map fun b => Value.int .u8 (b.toNat : Int)
@[simp] theorem bv_length (l : List UInt8) : (bv l).length = l.length := by simp [bv]
@[simp] theorem bv_nil : bv [] = [] := rfl
theorem bv_append (a b : List UInt8) : bv (a ++ b) = bv a ++ bv b := by simp [bv]
theorem bv_one (l : List UInt8) : ∀ u ∈ bv l, u.oneCell' = true := by
  intro u hu
  obtain ⟨b, _, rfl⟩ := List.mem_map.1 hu
  rfl
theorem bv_get {l : List UInt8} {j : Nat} {b : UInt8} (h : l[j]? = some b) : (bv l)[j]? = some (.int .u8 (b.toNat : Int)) := by
  simp [bv, h]

theorem Rd.fresh (w : World) (cs : List Value) (T : TypeId) (h : cs.length ≤ maxLen) :
    Rd (w.alloc (.cells cs.toArray T)) 1 (.slice (some ⟨w.heap.size, 0, none⟩) cs.length cs.length) cs.length cs := by
  refine ⟨by simp, _, _, rfl, Nat.le_refl _, h, (fun h => by cases h), fun a ha j u hu => ?_⟩
  cases ha
  refine ⟨rfl, ?_⟩
  rw [cell_of_row _ _ _ cs.toArray T (0, 0) (heap_alloc_new w _)]
  simpa using hu
theorem one_le_maxLen : 1 ≤ maxLen := by simp [maxLen]
theorem Rd.fresh1 (w : World) (x : Value) (T : TypeId) : Rd (w.alloc (.cells #[x] T)) 1 (.slice (some ⟨w.heap.size, 0, none⟩) 1 1) 1 [x] :=
  Rd.fresh w [x] T one_le_maxLen
theorem Rd.fresh2 (w : World) (x y : Value) (T : TypeId) : Rd (w.alloc (.cells #[x, y] T)) 1 (.slice (some ⟨w.heap.size, 0, none⟩) 2 2) 2 [x, y] :=
  Rd.fresh w [x, y] T (by simp [maxLen])

theorem own_fresh (w : World) (cs : List Value) (T : TypeId) (n : Nat) (hn : cs.length = n) (h : n ≤ maxLen) (base : Nat) (hb : base ≤ w.heap.size) :
    (w.alloc (.cells cs.toArray T)).ownsRow base T 1 (.slice (some ⟨w.heap.size, 0, none⟩) n n) n cs :=
  ⟨by simp [hn], .inr ⟨_, _, _, rfl, hb, heap_alloc_new w _, Nat.le_refl _, h, by simp [hn], by subst hn; simp⟩⟩

/-- the lowest bytes of a number, the lowest one first -/
def le (u : Int) (n : Nat) : List UInt8 := (List.range n).map fun i => UInt8.ofNat (u / 2 ^ (8 * i) % 256).toNat
@[simp] theorem le_length (u : Int) (n : Nat) : (le u n).length = n := by simp [le]
theorem u8_back (x : Int) (h0 : 0 ≤ x) (h1 : x < 256) : ((UInt8.ofNat x.toNat).toNat : Int) = x := by
  rw [UInt8.toNat_ofNat']; omega
theorem le_succ (u : Int) (k : Nat) : bv (le u (k + 1)) = bv (le u k) ++ [.int .u8 (u / 2 ^ (8 * k) % 256)] := by
  unfold le
  rw [List.range_succ, List.map_append, bv_append]
  have h0 : 0 ≤ u / 2 ^ (8 * k) % 256 := Int.emod_nonneg _ (by omega)
  have h1 : u / 2 ^ (8 * k) % 256 < 256 := Int.emod_lt_of_pos _ (by omega)
  simp only [List.map_cons, List.map_nil]
  congr 1
  simp only [bv, List.map_cons, List.map_nil]
  rw [u8_back _ h0 h1]

theorem bv_at {l : List UInt8} {j : Nat} (h : j < l.length) : (bv l)[j]? = some (.int .u8 ((l[j]).toNat : Int)) := by
  simp [bv, h]

/-- bytes that can be read through a slice -/
abbrev Bs (w : World) (v : Value) (l : List UInt8) : Prop := Rd w 1 v l.length (bv l)

section
variable {P : Program}
theorem strCells_bv (s : ByteArray) : Lib.strCells s = bv s.data.toList := rfl

/-- append of a string onto a slice of one's own -/
theorem wpList_append_str {w : World} {ops : Array Oper} {rest : List Oper} {o : Oper} {a : Act} {Q : Exit → Act → World → Prop} (hgd : o.guard = none) (sl x : Operand) (t u : TypeId)
    (ho : o.op = .call { callee := .builtin .append, args := #[sl, x], argTypes := #[t, u] })
    (base : Nat) (e : TypeId) (ht : P.underlying t = some (.slice e)) (hu : P.underlying u = some .string)
    (hinf : (P.info? e).map (fun i => (i.zero, i.size, i.bytes)) = some (some (.int .u8 0), 1, 1))
    (v : Value) (n : Nat) (xs : List Value) (hs : a.eval sl = v) (hown : w.ownsRow base e 1 v n xs) (s : ByteArray) (hx : a.eval x = .string s)
    (h63 : n + s.size ≤ 2000000) (hbase : base ≤ w.heap.size)
    (h : ∀ (p' : Option Addr) (c' : Nat) w', w'.ownsRow base e 1 (.slice p' (n + s.size) c') (n + s.size) (xs ++ bv s.data.toList) → w.grownBy w' v.ownBlock → wpList P ops Q rest (a.put o.dst (.slice p' (n + s.size) c')) w') :
    wpList P ops Q (o :: rest) a w := by
  obtain ⟨i, hi, hz, hsz, hby⟩ := info_parts hinf
  refine Lib.wpList_append_own_string w hgd sl x t u ho base e i ht hu hi hz hsz hby v n xs hs hown s hx (by simp only [maxLen]; omega) (by omega) hbase ?_
  intro v' w' h2 h3 _
  obtain ⟨p', c', rfl⟩ : ∃ p' c', v' = .slice p' (n + s.size) c' := by
    rcases h2.2 with ⟨h5, h6⟩ | ⟨g, cap, cur, h5, _⟩
    · exact ⟨none, 0, by rw [h5, h6]⟩
    · exact ⟨_, _, h5⟩
  exact h p' c' w' h2 h3

/-- string(b) of bytes that can be read -/
theorem run_bytes_str (w : World) (src dst e : TypeId) (v : Value) (l : List UInt8) (hs : P.underlying src = some (.slice e)) (he : P.underlying e = some (.int .u8)) (hd : P.underlying dst = some .string)
    (hrd : Bs w v l) : (convert src dst v).run P w = .ok (.string ⟨l.toArray⟩) w := by
  obtain ⟨_, p, cap, rfl, h1, h2, h3, h4⟩ := hrd
  cases p with
  | none =>
    obtain rfl := h3 rfl
    obtain rfl : l = [] := List.eq_nil_of_length_eq_zero (by omega)
    exact run_convert_bytes_nil w src e hs he 0 0 dst hd
  | some a =>
    exact run_convert_bytes_back w src dst e a cap l hs he hd (fun j hj => by
      obtain ⟨hspot, hc⟩ := h4 a rfl j _ (bv_at hj)
      rw [Addr.add_off a hspot]; exact hc)

theorem wpList_bytes_str {w : World} {ops : Array Oper} {rest : List Oper} {o : Oper} {a : Act} {Q : Exit → Act → World → Prop} (hgd : o.guard = none) (src dst : TypeId) (x : Operand)
    (ho : o.op = .convert src dst x) (e : TypeId) (hs : P.underlying src = some (.slice e)) (he : P.underlying e = some (.int .u8)) (hd : P.underlying dst = some .string)
    (v : Value) (l : List UInt8) (hx : a.eval x = v) (hrd : Bs w v l) (h : wpList P ops Q rest (a.put o.dst (.string ⟨l.toArray⟩)) w) :
    wpList P ops Q (o :: rest) a w := by
  refine wpList_plain hgd fun K hK => ?_
  have hr := run_bytes_str (P := P) w src dst e v l hs he hd hrd
  unfold Oper.wp execOp
  simp only [ho, hx, hr, Sem.run_bind, Sem.run_pure, Result.andThen_ok]
  exact hK _ _ h
end

section
variable {P : Program}
/-- make([]T, n): a new block of zeros -/
theorem wpList_make_blk {w : World} {ops : Array Oper} {rest : List Oper} {o : Oper} {a : Act} {Q : Exit → Act → World → Prop} (hg : o.guard = none) (l c : Operand) (t : TypeId) (hop : o.op = Op.makeSlice t l c)
    (e : TypeId) (z : Value) (size bytes : Nat) (h1 : P.underlying t = some (.slice e)) (hinf : (P.info? e).map (fun i => (i.zero, i.size, i.bytes)) = some (some z, size, bytes))
    (kl kc : IntKind) (L C : Int) (n : Nat) (hl : a.eval l = .int kl L) (hc : a.eval c = .int kc C) (hL : L = (n : Int)) (hC : C = (n : Int)) (b2 : bytes * n ≤ 281474976710656) (b3 : n ≤ maxLen)
    (hK : ∀ w', w'.heap[w.heap.size]? = some (.cells (madeCells z.cells (n * size)) e (0, 0)) → Below w.heap.size w w' → w.heap.size < w'.heap.size →
      wpList P ops Q rest (a.put o.dst (.slice (some ⟨w.heap.size, 0, none⟩) n n)) w') :
    wpList P ops Q (o :: rest) a w := by
  obtain ⟨i, hi, hz, hsz, rfl⟩ := info_parts hinf
  refine wpList_make_full w hg l c t hop w.heap.size e i z size h1 hi hz hsz kl kc L C n hl hc hL hC b2 b3 (Nat.le_refl _) ?_
  intro w' ho hgr
  rcases ho.2 with ⟨h5, _⟩ | ⟨g, cap, cur, h5, hbg, hh, hnc, hcm, hcs, htake⟩
  · cases h5
  · cases h5
    have hcur : cur = madeCells z.cells (n * size) := by
      apply Array.ext'
      rw [← htake, List.take_of_length_le (by simp [hcs])]
    subst hcur
    have hlt := (Array.getElem?_eq_some_iff.1 hh).1
    exact hK w' hh ((Below.refl _ _).grown hgr (Nat.le_refl _) (by intro k hk; cases hk)) hlt
end

theorem Bs.blk {w : World} {g n : Nat} {l : List UInt8} {T : TypeId} (h : w.heap[g]? = some (.cells (bv l).toArray T (0, 0))) (hn : n = l.length) (hm : n ≤ maxLen) :
    Bs w (.slice (some ⟨g, 0, none⟩) n n) l := by
  subst hn
  refine ⟨by simp, _, _, rfl, Nat.le_refl _, hm, (fun h => by cases h), fun a ha j u hu => ?_⟩
  cases ha
  refine ⟨rfl, ?_⟩
  rw [cell_of_row _ _ _ _ _ _ h]
  simpa using hu

end Go.Proofs.Ytdilkgcoecipjaa
