/- numbers from 0 to n - 1; terms by a number (printed by gen_solterms.py). -/
import Derived.Test.YtkhdadbbgfjcgaaSolD
import Derived.Test.YtkhdadbbgfjcgaaTmod
import Derived.Test.YtkhdadbbgfjcgaaArgs
namespace Go.Proofs.Ytkhdadbbgfjcgaa
open Go.RowKit
set_option linter.unusedVariables false

theorem within16_any (a n : Int) (w : World) (hn : 0 < n) (hn2 : n ≤ 1000000) :
    Calls Try.prog 12 #[.int .i64 a, .int .i64 n] w fun e w' => e = .returned (.int .i64 (a % n)) ∧ w = w' := by
  have hu := hid (tmod_up a n hn)
  have hb := tmod_bd a n hn
  have h0 : (n == 0) = false := by simp; omega
  by_cases hlt : a.tmod n < 0
  · go_enter Try.func12, Try.ntmps12
    go_wp2
    go_ret
    have h := hu.out
    rw [if_pos (by omega)] at h
    exact ⟨by rw [← h]; rfl, rfl⟩
  · go_enter Try.func12, Try.ntmps12
    go_wp2
    go_ret
    have h := hu.out
    rw [if_neg (by omega)] at h
    exact ⟨by rw [← h]; rfl, rfl⟩
theorem within15_any (a n : Int) (w : World) (hn : 0 < n) (hn2 : n ≤ 1000000) :
    Calls Try.prog 42 #[.int .i64 a, .int .i64 n] w fun e w' => e = .returned (.int .i64 (a % n)) ∧ w = w' := by
  have hu := hid (tmod_up a n hn)
  have hb := tmod_bd a n hn
  have h0 : (n == 0) = false := by simp; omega
  by_cases hlt : a.tmod n < 0
  · go_enter Try.func42, Try.ntmps42
    go_wp2
    go_ret
    have h := hu.out
    rw [if_pos (by omega)] at h
    exact ⟨by rw [← h]; rfl, rfl⟩
  · go_enter Try.func42, Try.ntmps42
    go_wp2
    go_ret
    have h := hu.out
    rw [if_neg (by omega)] at h
    exact ⟨by rw [← h]; rfl, rfl⟩

set_option maxRecDepth 100000 in
theorem power_any (n : Nat) (w : World) (hn : n ≤ 5) : Calls Try.prog 37 #[.int .i64 n] w fun e w' => e = .returned (.int .i64 ((5 ^ n : Nat) : Int)) ∧ w = w' := by
  go_enter Try.func37, Try.ntmps37
  go_wp2_with fail
  go_loopw [3, 4] (fun vp vi wr => ∃ (i p : Nat), vp = .int .i64 p ∧ vi = .int .i64 i ∧ i ≤ n ∧ p ≤ 3125 ∧ Hid (p = 5 ^ i) ∧ w = wr) (fun vp vi _ => n + 1 - (intOf vi).toNat)
  case atStart => exact ⟨0, 1, rfl, rfl, Nat.zero_le _, by omega, rfl, rfl⟩
  case round =>
    obtain ⟨i, p, rfl, rfl, hi, hp, HP, rfl⟩ := hrel
    by_cases hlt : i < n
    · have hlt2 : (i : Int) < (n : Int) := by omega
      have hp5 : 5 * p ≤ 3125 := by
        have h1 : 5 ^ (i + 1) ≤ 5 ^ 5 := Nat.pow_le_pow_right (by omega) (by omega)
        rw [HP.out]; rw [Nat.pow_succ] at h1; omega
      go_wp2_with fail
      go_roundw
      case rel => exact ⟨i + 1, 5 * p, by go_num, by go_num, by omega, hp5, hid (by rw [HP.out, Nat.pow_succ]; omega), by first | exact rfl | exact trivial⟩
      case measure => simp [intOf]; omega
    · have hlt2 : ¬ (i : Int) < (n : Int) := by omega
      obtain rfl : i = n := by omega
      go_wp2_with fail
      go_ret
      exact ⟨by rw [HP.out]; rfl, rfl⟩

theorem results_row1 {P : Program} {fn : Func} {p : Tmp} {ty : TypeId} (h : fn.results = #[.cell p ty]) (tmps : Array Value) (w : World) (g : Nat) (t : TypeId) (cs : Array Value) (fr : Nat × Nat) (d : TypeDesc)
    (hp : tmps.getD p undef = .pointer (some ⟨g, 0, none⟩)) (hg : w.heap[g]? = some (.cells cs t fr))
    (hu : P.underlying ty = some d) (hd : (match d with | .struct _ | .array _ _ => true | _ => false) = true) (hi : (P.info? ty).map (·.size) = some cs.size) :
    (results fn tmps).run P w = .ok (.agg cs) w := by
  have hp' : tmps[p]?.getD undef = .pointer (some ⟨g, 0, none⟩) := by simpa using hp
  simp [results, h, hp', asAddr, run_loadVar_row w g t ty cs fr d hg hu hd hi]
set_option maxRecDepth 100000 in
theorem num_any (a b : List UInt8) (w : World) : Calls Try.prog 41 #[.string (B a), .string (B b)] w fun e w' => e = .returned (tv (3, a, [], b)) ∧ Below w.heap.size w w' := by
  go_enter Try.func41, Try.ntmps41
  go_wp2_with fail
  have hz := heap_alloc_new w (Obj.cells (tc (3, a, [], b)).toArray TT)
  have hzb := (Below.refl w.heap.size w).alloc (Nat.le_refl _) (Obj.cells (tc (3, a, [], b)).toArray TT)
  refine bodyPost_ret (results_row1 rfl _ _ w.heap.size TT _ (0, 0) _ rfl hz Try.underlying36 rfl (by kernel_rfl)) rfl ?_
  exact ⟨rfl, hzb⟩

def tms : List T4 := [(3, [48], [], [104, 116, 116, 112, 58, 47, 47, 119, 119, 119, 46, 119, 51, 46, 111, 114, 103, 47, 50, 48, 48, 49, 47, 88, 77, 76, 83, 99, 104, 101, 109, 97, 35, 105, 110, 116, 101, 103, 101, 114]),
  (3, [49], [], [104, 116, 116, 112, 58, 47, 47, 119, 119, 119, 46, 119, 51, 46, 111, 114, 103, 47, 50, 48, 48, 49, 47, 88, 77, 76, 83, 99, 104, 101, 109, 97, 35, 105, 110, 116, 101, 103, 101, 114]),
  (3, [45, 55], [], [104, 116, 116, 112, 58, 47, 47, 119, 119, 119, 46, 119, 51, 46, 111, 114, 103, 47, 50, 48, 48, 49, 47, 88, 77, 76, 83, 99, 104, 101, 109, 97, 35, 105, 110, 116, 101, 103, 101, 114]),
  (3, [48, 48, 55], [], [104, 116, 116, 112, 58, 47, 47, 119, 119, 119, 46, 119, 51, 46, 111, 114, 103, 47, 50, 48, 48, 49, 47, 88, 77, 76, 83, 99, 104, 101, 109, 97, 35, 105, 110, 116, 101, 103, 101, 114]),
  (3, [49, 46, 48], [], [104, 116, 116, 112, 58, 47, 47, 119, 119, 119, 46, 119, 51, 46, 111, 114, 103, 47, 50, 48, 48, 49, 47, 88, 77, 76, 83, 99, 104, 101, 109, 97, 35, 100, 101, 99, 105, 109, 97, 108]),
  (3, [50, 46, 53, 48], [], [104, 116, 116, 112, 58, 47, 47, 119, 119, 119, 46, 119, 51, 46, 111, 114, 103, 47, 50, 48, 48, 49, 47, 88, 77, 76, 83, 99, 104, 101, 109, 97, 35, 100, 101, 99, 105, 109, 97, 108]),
  (3, [57, 57, 57, 57, 57, 57, 57, 57, 57, 57, 57, 57, 57, 57, 57], [], [104, 116, 116, 112, 58, 47, 47, 119, 119, 119, 46, 119, 51, 46, 111, 114, 103, 47, 50, 48, 48, 49, 47, 88, 77, 76, 83, 99, 104, 101, 109, 97, 35, 105, 110, 116, 101, 103, 101, 114]),
  (3, [120], [], [104, 116, 116, 112, 58, 47, 47, 119, 119, 119, 46, 119, 51, 46, 111, 114, 103, 47, 50, 48, 48, 49, 47, 88, 77, 76, 83, 99, 104, 101, 109, 97, 35, 105, 110, 116, 101, 103, 101, 114]),
  (3, [49, 46, 53], [], [104, 116, 116, 112, 58, 47, 47, 119, 119, 119, 46, 119, 51, 46, 111, 114, 103, 47, 50, 48, 48, 49, 47, 88, 77, 76, 83, 99, 104, 101, 109, 97, 35, 105, 110, 116, 101, 103, 101, 114]),
  (3, [97], [], []),
  (3, [97, 98], [], []),
  (3, [], [], []),
  (3, [97], [101, 110], []),
  (3, [97], [100, 101], []),
  (3, [116, 114, 117, 101], [], [104, 116, 116, 112, 58, 47, 47, 119, 119, 119, 46, 119, 51, 46, 111, 114, 103, 47, 50, 48, 48, 49, 47, 88, 77, 76, 83, 99, 104, 101, 109, 97, 35, 98, 111, 111, 108, 101, 97, 110]),
  (3, [102, 97, 108, 115, 101], [], [104, 116, 116, 112, 58, 47, 47, 119, 119, 119, 46, 119, 51, 46, 111, 114, 103, 47, 50, 48, 48, 49, 47, 88, 77, 76, 83, 99, 104, 101, 109, 97, 35, 98, 111, 111, 108, 101, 97, 110]),
  (3, [109, 97, 121, 98, 101], [], [104, 116, 116, 112, 58, 47, 47, 119, 119, 119, 46, 119, 51, 46, 111, 114, 103, 47, 50, 48, 48, 49, 47, 88, 77, 76, 83, 99, 104, 101, 109, 97, 35, 98, 111, 111, 108, 101, 97, 110]),
  (3, [97], [], [116, 58, 116]),
  (3, [98], [], [116, 58, 116]),
  (1, [97], [], []),
  (1, [98], [], []),
  (2, [97], [], []),
  (3, [48, 46, 48, 48, 48, 48, 48, 49], [], [104, 116, 116, 112, 58, 47, 47, 119, 119, 119, 46, 119, 51, 46, 111, 114, 103, 47, 50, 48, 48, 49, 47, 88, 77, 76, 83, 99, 104, 101, 109, 97, 35, 100, 101, 99, 105, 109, 97, 108]),
  (3, [45, 48], [], [104, 116, 116, 112, 58, 47, 47, 119, 119, 119, 46, 119, 51, 46, 111, 114, 103, 47, 50, 48, 48, 49, 47, 88, 77, 76, 83, 99, 104, 101, 109, 97, 35, 105, 110, 116, 101, 103, 101, 114])]
theorem tms_ok : ∀ t ∈ tms, OkT t := by
  intro t ht
  have h : (tms.all fun t => decide (0 ≤ t.1) && decide (t.1 ≤ 100) && decide (t.2.1.length ≤ 100) && decide (t.2.2.1.length ≤ 100) && decide (t.2.2.2.length ≤ 100)) = true := by decide
  have h := List.all_eq_true.1 h t ht
  simp only [Bool.and_eq_true, decide_eq_true_eq] at h
  exact ⟨h.1.1.1.1, h.1.1.1.2, h.1.1.2, h.1.2, h.2⟩
theorem tms_len : tms.length = 24 := rfl
def tm (k : Nat) : T4 := (tms[k]?).getD (0, [], [], [])
theorem tm_ok (k : Nat) : OkT (tm k) := by
  unfold tm
  cases h : tms[k]? with
  | none => exact ⟨by decide, by decide, by decide, by decide, by decide⟩
  | some t => exact tms_ok t (List.mem_of_getElem? h)
/-- the term of a number -/
def termP15 (n : Int) : T4 := tm (n % 24).toNat

theorem wpList_buildSlice_parts {P : Program} {w : World} {ops : Array Oper} {rest : List Oper} {o : Oper} {a : Act} {Q : Exit → Act → World → Prop} (hgd : o.guard = none) (t : TypeId) (n : Nat) (ps : List (Nat × Operand)) (ho : o.op = .buildSlice t n ps.toArray)
    (parts : List (Nat × Value)) (hp : ps.map (fun p => (p.1, a.eval p.2)) = parts) (v : Value) (w' : World) (hr : (Instr.buildSlice t n parts.toArray).run P w = .ok v w')
    (h : wpList P ops Q rest (a.put o.dst v) w') : wpList P ops Q (o :: rest) a w := by
  refine wpList_plain hgd fun K hK => ?_
  unfold Oper.wp execOp
  have he : (ps.toArray.map fun (i, x) => (i, a.eval x)) = parts.toArray := by rw [← hp, List.map_toArray]
  simp only [ho, he, hr, Sem.run_bind, Sem.run_pure, Result.andThen_ok]
  exact hK _ _ h
def tParts : List (Nat × Value) := tms.zipIdx.map (fun (t, i) => (i, tv t))
theorem fill_tms : Instr.fill (fun i => some (i * 4, 4)) (Array.map (fun x => (tv (0, [], [], [])).cells[x % (tv (0, [], [], [])).cells.size]!) (Array.range 96)) tParts = some (tms.flatMap tc).toArray := by kernel_rfl
theorem infoT4 : (Try.prog.info? TT).map (fun i => (i.zero, i.size)) = some (some (tv (0, [], [], [])), 4) := by kernel_rfl
theorem run_tms (w : World) : (Instr.buildSlice 78 24 tParts.toArray).run Try.prog w = .ok (.slice (some ⟨w.heap.size, 0, none⟩) 24 24) (w.alloc (.cells (tms.flatMap tc).toArray TT)) := by
  obtain ⟨i, hi, he⟩ := Option.map_eq_some_iff.1 infoT4
  simp only [Prod.mk.injEq] at he
  obtain ⟨hz, hs⟩ := he
  have hf := fill_tms
  unfold Instr.buildSlice
  simp only [run_underlying Try.underlying78, sizeOf, typeInfo, Sem.run_bind, Sem.run_pure, Result.andThen_ok]
  simp [zeroValue, typeInfo, hi, hz, hs]
  rw [hf]
  simp [newRow]
theorem tcs_getL : ∀ {l : List T4} {i : Nat} (hi : i < l.length) (j : Nat) (hj : j < 4), (l.flatMap tc)[i * 4 + j]? = (tc l[i])[j]?
  | x :: l, 0, _, j, hj => by
    rw [List.flatMap_cons, Nat.zero_mul, Nat.zero_add, List.getElem?_append_left (by rw [tc_length]; exact hj)]; rfl
  | x :: l, i + 1, hi, j, hj => by
    rw [List.flatMap_cons, List.getElem?_append_right (by rw [tc_length]; omega), tc_length, show (i + 1) * 4 + j - 4 = i * 4 + j by omega]
    exact tcs_getL (by simpa using hi) j hj
theorem tcs_get {k : Nat} (hk : k < 24) (j : Nat) (hj : j < 4) : (tms.flatMap tc)[k * 4 + j]? = (tc (tm k))[j]? := by
  have hk' : k < tms.length := hk
  rw [tcs_getL hk' j hj]
  unfold tm
  rw [List.getElem?_eq_getElem hk']
  rfl
set_option maxRecDepth 100000 in
set_option maxHeartbeats 8000000 in
theorem term15_any (n : Int) (w : World) : Calls Try.prog 20 #[.int .i64 n] w fun e w' => e = .returned (tv (termP15 n)) ∧ Below w.heap.size w w' := by
  go_enter Try.func20, Try.ntmps20
  go_wp2_with fail
  have hz := heap_alloc_new w Z4
  have hzb := (Below.refl w.heap.size w).alloc (Nat.le_refl _) Z4
  unfold Z4 at hz hzb
  generalize w.alloc (Obj.cells #[.int .i64 0, .string ⟨#[]⟩, .string ⟨#[]⟩, .string ⟨#[]⟩] TT) = w0 at hz hzb ⊢
  have HZ0 := hid hz
  have HB0 := hid hzb
  clear hz hzb
  refine (num_any [48] [104, 116, 116, 112, 58, 47, 47, 119, 119, 119, 46, 119, 51, 46, 111, 114, 103, 47, 50, 48, 48, 49, 47, 88, 77, 76, 83, 99, 104, 101, 109, 97, 35, 105, 110, 116, 101, 103, 101, 114] w0).mono ?_; rintro e w1 ⟨rfl, hb⟩
  have HZ1 := hid (Blk.chg (fp := NoFp) HZ0.out (Chg.new hb NoFp) (fun h => h))
  have HB1 := hid (HB0.out.trans (hb.mono HB0.out.size))
  clear hb HZ0 HB0
  go_wp2_with fail
  refine (num_any [49] [104, 116, 116, 112, 58, 47, 47, 119, 119, 119, 46, 119, 51, 46, 111, 114, 103, 47, 50, 48, 48, 49, 47, 88, 77, 76, 83, 99, 104, 101, 109, 97, 35, 105, 110, 116, 101, 103, 101, 114] w1).mono ?_; rintro e w2 ⟨rfl, hb⟩
  have HZ2 := hid (Blk.chg (fp := NoFp) HZ1.out (Chg.new hb NoFp) (fun h => h))
  have HB2 := hid (HB1.out.trans (hb.mono HB1.out.size))
  clear hb HZ1 HB1
  go_wp2_with fail
  refine (num_any [45, 55] [104, 116, 116, 112, 58, 47, 47, 119, 119, 119, 46, 119, 51, 46, 111, 114, 103, 47, 50, 48, 48, 49, 47, 88, 77, 76, 83, 99, 104, 101, 109, 97, 35, 105, 110, 116, 101, 103, 101, 114] w2).mono ?_; rintro e w3 ⟨rfl, hb⟩
  have HZ3 := hid (Blk.chg (fp := NoFp) HZ2.out (Chg.new hb NoFp) (fun h => h))
  have HB3 := hid (HB2.out.trans (hb.mono HB2.out.size))
  clear hb HZ2 HB2
  go_wp2_with fail
  refine (num_any [48, 48, 55] [104, 116, 116, 112, 58, 47, 47, 119, 119, 119, 46, 119, 51, 46, 111, 114, 103, 47, 50, 48, 48, 49, 47, 88, 77, 76, 83, 99, 104, 101, 109, 97, 35, 105, 110, 116, 101, 103, 101, 114] w3).mono ?_; rintro e w4 ⟨rfl, hb⟩
  have HZ4 := hid (Blk.chg (fp := NoFp) HZ3.out (Chg.new hb NoFp) (fun h => h))
  have HB4 := hid (HB3.out.trans (hb.mono HB3.out.size))
  clear hb HZ3 HB3
  go_wp2_with fail
  refine (num_any [49, 46, 48] [104, 116, 116, 112, 58, 47, 47, 119, 119, 119, 46, 119, 51, 46, 111, 114, 103, 47, 50, 48, 48, 49, 47, 88, 77, 76, 83, 99, 104, 101, 109, 97, 35, 100, 101, 99, 105, 109, 97, 108] w4).mono ?_; rintro e w5 ⟨rfl, hb⟩
  have HZ5 := hid (Blk.chg (fp := NoFp) HZ4.out (Chg.new hb NoFp) (fun h => h))
  have HB5 := hid (HB4.out.trans (hb.mono HB4.out.size))
  clear hb HZ4 HB4
  go_wp2_with fail
  refine (num_any [50, 46, 53, 48] [104, 116, 116, 112, 58, 47, 47, 119, 119, 119, 46, 119, 51, 46, 111, 114, 103, 47, 50, 48, 48, 49, 47, 88, 77, 76, 83, 99, 104, 101, 109, 97, 35, 100, 101, 99, 105, 109, 97, 108] w5).mono ?_; rintro e w6 ⟨rfl, hb⟩
  have HZ6 := hid (Blk.chg (fp := NoFp) HZ5.out (Chg.new hb NoFp) (fun h => h))
  have HB6 := hid (HB5.out.trans (hb.mono HB5.out.size))
  clear hb HZ5 HB5
  go_wp2_with fail
  refine (num_any [57, 57, 57, 57, 57, 57, 57, 57, 57, 57, 57, 57, 57, 57, 57] [104, 116, 116, 112, 58, 47, 47, 119, 119, 119, 46, 119, 51, 46, 111, 114, 103, 47, 50, 48, 48, 49, 47, 88, 77, 76, 83, 99, 104, 101, 109, 97, 35, 105, 110, 116, 101, 103, 101, 114] w6).mono ?_; rintro e w7 ⟨rfl, hb⟩
  have HZ7 := hid (Blk.chg (fp := NoFp) HZ6.out (Chg.new hb NoFp) (fun h => h))
  have HB7 := hid (HB6.out.trans (hb.mono HB6.out.size))
  clear hb HZ6 HB6
  go_wp2_with fail
  refine (num_any [120] [104, 116, 116, 112, 58, 47, 47, 119, 119, 119, 46, 119, 51, 46, 111, 114, 103, 47, 50, 48, 48, 49, 47, 88, 77, 76, 83, 99, 104, 101, 109, 97, 35, 105, 110, 116, 101, 103, 101, 114] w7).mono ?_; rintro e w8 ⟨rfl, hb⟩
  have HZ8 := hid (Blk.chg (fp := NoFp) HZ7.out (Chg.new hb NoFp) (fun h => h))
  have HB8 := hid (HB7.out.trans (hb.mono HB7.out.size))
  clear hb HZ7 HB7
  go_wp2_with fail
  refine (num_any [49, 46, 53] [104, 116, 116, 112, 58, 47, 47, 119, 119, 119, 46, 119, 51, 46, 111, 114, 103, 47, 50, 48, 48, 49, 47, 88, 77, 76, 83, 99, 104, 101, 109, 97, 35, 105, 110, 116, 101, 103, 101, 114] w8).mono ?_; rintro e w9 ⟨rfl, hb⟩
  have HZ9 := hid (Blk.chg (fp := NoFp) HZ8.out (Chg.new hb NoFp) (fun h => h))
  have HB9 := hid (HB8.out.trans (hb.mono HB8.out.size))
  clear hb HZ8 HB8
  go_wp2_with fail
  refine (num_any [116, 114, 117, 101] [104, 116, 116, 112, 58, 47, 47, 119, 119, 119, 46, 119, 51, 46, 111, 114, 103, 47, 50, 48, 48, 49, 47, 88, 77, 76, 83, 99, 104, 101, 109, 97, 35, 98, 111, 111, 108, 101, 97, 110] w9).mono ?_; rintro e w10 ⟨rfl, hb⟩
  have HZ10 := hid (Blk.chg (fp := NoFp) HZ9.out (Chg.new hb NoFp) (fun h => h))
  have HB10 := hid (HB9.out.trans (hb.mono HB9.out.size))
  clear hb HZ9 HB9
  go_wp2_with fail
  refine (num_any [102, 97, 108, 115, 101] [104, 116, 116, 112, 58, 47, 47, 119, 119, 119, 46, 119, 51, 46, 111, 114, 103, 47, 50, 48, 48, 49, 47, 88, 77, 76, 83, 99, 104, 101, 109, 97, 35, 98, 111, 111, 108, 101, 97, 110] w10).mono ?_; rintro e w11 ⟨rfl, hb⟩
  have HZ11 := hid (Blk.chg (fp := NoFp) HZ10.out (Chg.new hb NoFp) (fun h => h))
  have HB11 := hid (HB10.out.trans (hb.mono HB10.out.size))
  clear hb HZ10 HB10
  go_wp2_with fail
  refine (num_any [109, 97, 121, 98, 101] [104, 116, 116, 112, 58, 47, 47, 119, 119, 119, 46, 119, 51, 46, 111, 114, 103, 47, 50, 48, 48, 49, 47, 88, 77, 76, 83, 99, 104, 101, 109, 97, 35, 98, 111, 111, 108, 101, 97, 110] w11).mono ?_; rintro e w12 ⟨rfl, hb⟩
  have HZ12 := hid (Blk.chg (fp := NoFp) HZ11.out (Chg.new hb NoFp) (fun h => h))
  have HB12 := hid (HB11.out.trans (hb.mono HB11.out.size))
  clear hb HZ11 HB11
  go_wp2_with fail
  refine (num_any [97] [116, 58, 116] w12).mono ?_; rintro e w13 ⟨rfl, hb⟩
  have HZ13 := hid (Blk.chg (fp := NoFp) HZ12.out (Chg.new hb NoFp) (fun h => h))
  have HB13 := hid (HB12.out.trans (hb.mono HB12.out.size))
  clear hb HZ12 HB12
  go_wp2_with fail
  refine (num_any [98] [116, 58, 116] w13).mono ?_; rintro e w14 ⟨rfl, hb⟩
  have HZ14 := hid (Blk.chg (fp := NoFp) HZ13.out (Chg.new hb NoFp) (fun h => h))
  have HB14 := hid (HB13.out.trans (hb.mono HB13.out.size))
  clear hb HZ13 HB13
  go_wp2_with fail
  refine (num_any [48, 46, 48, 48, 48, 48, 48, 49] [104, 116, 116, 112, 58, 47, 47, 119, 119, 119, 46, 119, 51, 46, 111, 114, 103, 47, 50, 48, 48, 49, 47, 88, 77, 76, 83, 99, 104, 101, 109, 97, 35, 100, 101, 99, 105, 109, 97, 108] w14).mono ?_; rintro e w15 ⟨rfl, hb⟩
  have HZ15 := hid (Blk.chg (fp := NoFp) HZ14.out (Chg.new hb NoFp) (fun h => h))
  have HB15 := hid (HB14.out.trans (hb.mono HB14.out.size))
  clear hb HZ14 HB14
  go_wp2_with fail
  refine (num_any [45, 48] [104, 116, 116, 112, 58, 47, 47, 119, 119, 119, 46, 119, 51, 46, 111, 114, 103, 47, 50, 48, 48, 49, 47, 88, 77, 76, 83, 99, 104, 101, 109, 97, 35, 105, 110, 116, 101, 103, 101, 114] w15).mono ?_; rintro e w16 ⟨rfl, hb⟩
  have HZ16 := hid (Blk.chg (fp := NoFp) HZ15.out (Chg.new hb NoFp) (fun h => h))
  have HB16 := hid (HB15.out.trans (hb.mono HB15.out.size))
  clear hb HZ15 HB15
  go_wp2_with (refine wpList_buildSlice_parts rfl _ 24 _ rfl tParts rfl _ _ (run_tms _) ?_)
  have hm0 := Int.emod_nonneg n (show (24 : Int) ≠ 0 by omega)
  have hm1 := Int.emod_lt_of_pos n (show (0 : Int) < 24 by omega)
  have hg : Blk (w16.alloc (Obj.cells (tms.flatMap tc).toArray TT)) w16.heap.size (tms.flatMap tc) TT := heap_alloc_new w16 _
  have hgb := (Below.refl w16.heap.size w16).alloc (Nat.le_refl _) (Obj.cells (tms.flatMap tc).toArray TT)
  have hz := Blk.chg (fp := NoFp) HZ16.out (Chg.new hgb NoFp) (fun h => h)
  have hb := HB16.out.trans (hgb.mono HB16.out.size)
  generalize w16.alloc (Obj.cells (tms.flatMap tc).toArray TT) = wg at hg hz hb ⊢
  refine (within15_any n 24 wg (by omega) (by omega)).mono ?_; rintro e we ⟨rfl, hw⟩; subst hw
  obtain ⟨k, hk⟩ : ∃ k : Nat, n % 24 = (k : Int) := ⟨(n % 24).toNat, by omega⟩
  have hk24 : k < 24 := by omega
  have HT := hid (show termP15 n = tm k by unfold termP15; rw [hk]; rfl)
  rw [hk]
  have hcells : ∀ j, j < 4 → wg.cell? ⟨w16.heap.size, k * 4 + j, none⟩ = (tc (tm k))[j]? := fun j hj => by
    rw [hg.cell]
    exact tcs_get hk24 j hj
  have c0 : wg.cell? ⟨w16.heap.size, k * 4, none⟩ = some (.int .i64 (tm k).1) := hcells 0 (by omega)
  have c1 : wg.cell? ⟨w16.heap.size, k * 4 + 1, none⟩ = some (.string (B (tm k).2.1)) := hcells 1 (by omega)
  have c2 : wg.cell? ⟨w16.heap.size, k * 4 + 2, none⟩ = some (.string (B (tm k).2.2.1)) := hcells 2 (by omega)
  have c3 : wg.cell? ⟨w16.heap.size, k * 4 + 3, none⟩ = some (.string (B (tm k).2.2.2)) := hcells 3 (by omega)
  obtain ⟨k0, k1, k2, k3, f0, f1, f2, f3⟩ := blk4 hz
  have HZ := hid hz
  have HB := hid hb
  have hk2 : (k : Int) < 24 := by omega
  clear hk hcells hz hb hg hgb hm0 hm1 HZ16 HB16
  generalize tm k = t at *
  go_wp2_with fail
  have hfin := set4 HZ.out t
  refine bodyPost_ret (results_row1 rfl _ _ w.heap.size TT _ (0, 0) _ rfl hfin Try.underlying36 rfl (by kernel_rfl)) rfl ?_
  refine ⟨by rw [HT.out], (((HB.out.setCell (Nat.le_refl _) _).setCell (Nat.le_refl _) _).setCell (Nat.le_refl _) _).setCell (Nat.le_refl _) _⟩
end Go.Proofs.Ytkhdadbbgfjcgaa
