/- append onto a full slice that is not one's own; triadref1.Int onto such a slice. -/
import Derived.Test.YtplahohlmiphoaaHomes
namespace Go.Proofs.Ytplahohlmiphoaa
open Go.RowKit
set_option linter.unusedVariables false

section
variable {P : Program}
theorem run_append_full (w : World) (t ty e : TypeId) (z : Value) (size bytes : Nat) (ht : P.underlying t = some (.slice e))
    (hinf : (P.info? e).map (fun i => (i.zero, i.size, i.bytes)) = some (some z, size, bytes)) (hzs : z.cells.size = size) (hsz : 0 < size)
    (b : Addr) (n : Nat) (xs : List Value) (hv : Rd w size (.slice (some b) n n) n xs)
    (x : Value) (m : Nat) (news : List Value) (hrd : Rd w size x m news) (hm : 0 < m)
    (h63 : n + m ≤ maxLen) (hbytes : (n + m) * bytes ≤ 140737488355328) :
    ∃ v' w', (Builtin.append_ #[t, t] ty #[.slice (some b) n n, x]).run P w = .ok v' w' ∧ w'.ownsRow w.heap.size e size v' (n + m) (xs ++ news) ∧ Below w.heap.size w w' := by
  obtain ⟨i, hi, hz, rfl, rfl⟩ := info_parts hinf
  obtain ⟨hl, p, cap, rfl, hmc, hcm, hp0, hp⟩ := hrd
  obtain ⟨hlv, p', cap', he, _, _, _, hpv⟩ := hv
  cases he
  have hsmall : n + m ≤ 9223372036854775807 := by simp only [maxLen] at h63; omega
  cases p with
  | none =>
    have := hp0 rfl
    omega
  | some a =>
    have hnews : ∀ j u, news[j]? = some u → w.cell? (a.add j) = some u := fun j u hu => by
      rw [Addr.add_off a (hp a rfl j u hu).1]; exact (hp a rfl j u hu).2
    have holds : ∀ j u, xs[j]? = some u → w.cell? (b.add j) = some u := fun j u hu => by
      rw [Addr.add_off b (hpv b rfl j u hu).1]; exact (hpv b rfl j u hu).2
    have hlen : (xs ++ news).length = (n + m) * i.size := by rw [List.length_append, hlv, hl, Nat.add_mul]
    have hr := run_append_grow (P := P) w t ty e i z ht hi hz b n n xs hlv holds a m cap news hl hnews (by omega) (by omega) (growslice_fits (by omega) hbytes)
    have hge := grownCap_ge w (n + m) n e
    have hcm' : grownCap w (n + m) n e ≤ maxLen := grownCap_le_maxLen w (n + m) n e h63
    refine ⟨_, _, hr, ⟨hlen, .inr ⟨w.heap.size, _, _, rfl, Nat.le_refl _, heap_alloc_new w.drew _, hge, hcm', ?_, ?_⟩⟩, (below_drewN (Below.refl _ _) 1).alloc (by simp) _⟩
    · simp only [Array.size_append, List.size_toArray, size_zeroCells, hzs, hlv, hl, ← Nat.add_mul]
      congr 1
      omega
    · simp only [Array.toList_append, List.append_assoc]
      rw [← List.append_assoc, ← hlen]
      exact List.take_left

theorem wpList_append_full {w : World} {ops : Array Oper} {rest : List Oper} {o : Oper} {a : Act} {Q : Exit → Act → World → Prop} (hgd : o.guard = none) (s x : Operand) (t : TypeId)
    (ho : o.op = .call { callee := .builtin .append, args := #[s, x], argTypes := #[t, t] })
    (e : TypeId) (z : Value) (size bytes : Nat) (ht : P.underlying t = some (.slice e))
    (hinf : (P.info? e).map (fun i => (i.zero, i.size, i.bytes)) = some (some z, size, bytes)) (hzs : z.cells.size = size) (hsz : 0 < size)
    (b : Addr) (n : Nat) (xs : List Value) (hs : a.eval s = .slice (some b) n n) (hv : Rd w size (.slice (some b) n n) n xs)
    (xv : Value) (m : Nat) (news : List Value) (hx : a.eval x = xv) (hrd : Rd w size xv m news) (hm : 0 < m)
    (h63 : n + m ≤ maxLen) (hbytes : (n + m) * bytes ≤ 140737488355328)
    (h : ∀ (p' : Option Addr) (c' : Nat) w', w'.ownsRow w.heap.size e size (.slice p' (n + m) c') (n + m) (xs ++ news) → Below w.heap.size w w' → wpList P ops Q rest (a.put o.dst (.slice p' (n + m) c')) w') :
    wpList P ops Q (o :: rest) a w := by
  refine wpList_plain hgd fun K hK => ?_
  obtain ⟨v', w', hr, h2, h3⟩ := run_append_full (P := P) w t o.type e z size bytes ht hinf hzs hsz b n xs hv xv m news hrd hm h63 hbytes
  unfold Oper.wp execOp
  simp only [ho, resolve, invoke, builtin, Sem.run_bind, Sem.run_pure, Result.andThen_ok, List.map_toArray, List.map_cons, List.map_nil, hs, hx, hr]
  obtain ⟨p', c', rfl⟩ : ∃ p' c', v' = .slice p' (n + m) c' := by
    rcases h2.2 with ⟨h5, h6⟩ | ⟨g, cap, cur, h5, _⟩
    · exact ⟨none, 0, by rw [h5, h6]⟩
    · exact ⟨_, _, h5⟩
  exact hK _ _ (h p' c' w' h2 h3)
end

theorem ownsRow_lower {w : World} {base base' size n : Nat} {e : TypeId} {v : Value} {xs : List Value} (h : w.ownsRow base e size v n xs) (hb : base' ≤ base) : w.ownsRow base' e size v n xs :=
  ⟨h.1, h.2.elim Or.inl (fun ⟨g, cap, cur, hv, hg, r⟩ => Or.inr ⟨g, cap, cur, hv, Nat.le_trans hb hg, r⟩)⟩

set_option maxRecDepth 100000 in
set_option maxHeartbeats 2000000 in
theorem xcEncL_any (b : Addr) (l : List UInt8) (u : Int) (w : World) (hv : Bs w (.slice (some b) l.length l.length) l) (hl : l.length ≤ 1000) :
    Calls Try.prog 54 #[.slice (some b) l.length l.length, .int .i64 u] w fun e w' => ∃ v', e = .returned v' ∧ w'.ownsRow w.heap.size 5 1 v' (l.length + 8) (bv (l ++ le (IntKind.u64.wrap u) 8)) ∧ Below w.heap.size w w' := by
  have HV := hid hv
  have hu := u64_bd u
  clear hv
  go_enter Try.func54, Try.ntmps54
  go_wp2_with fail
  go_loopw [0, 5] (fun x i wr => ∃ k : Nat, k ≤ 8 ∧ i = .int .i64 k ∧ ((k = 0 ∧ x = .slice (some b) l.length l.length) ∨ (1 ≤ k ∧ wr.ownsRow w.heap.size 5 1 x (l.length + k) (bv (l ++ le (IntKind.u64.wrap u) k)))) ∧ Below w.heap.size w wr ∧ w.heap.size ≤ wr.heap.size) (fun _ i _ => 9 - (intOf i).toNat)
  case atStart => exact ⟨0, by omega, rfl, .inl ⟨rfl, rfl⟩, Below.refl _ _, Nat.le_refl _⟩
  case round =>
    obtain ⟨k, hk, rfl, ho, hb, hs⟩ := hrel
    have B1 := hid hb
    have S1 := hid hs
    clear hb hs
    rcases ho with ⟨rfl, rfl⟩ | ⟨hk1, ho⟩
    · go_wp2_with (at_builtin; refine wp_keep ?_)
      refine hid ?_
      refine wpList_append_full rfl _ _ 26 rfl 5 _ 1 1 Try.underlying26 infoU8 rfl (by decide) b l.length (bv l) rfl ((HV.out.new B1.out).new ((Below.refl _ _).alloc (Nat.le_refl _) _)) _ 1 [.int .u8 (IntKind.u64.wrap u % 256)] rfl (Rd.fresh1 _ _ _) (by omega) (by simp only [maxLen]; omega) (by omega) ?_
      intro pp cc w7 hown7 hb7
      have O7 := hid (ownsRow_lower hown7 (Nat.le_trans S1.out (show wr.heap.size ≤ _ by simp)))
      have B7 := hid ((B1.out.alloc S1.out _).trans (hb7.mono (Nat.le_trans S1.out (show wr.heap.size ≤ _ by simp))))
      clear hown7 hb7
      go_wp2_with fail
      go_roundw
      case rel =>
        refine ⟨1, by omega, by go_num, .inr ⟨Nat.le_refl _, ?_⟩, B7.out, B7.out.size⟩
        rw [bv_append, le_succ]
        simpa [le] using O7.out
      case measure => simp [intOf]
    · have O1 := hid ho
      clear ho
      by_cases hlt : k < 8
      · go_wp2_with (at_builtin; refine wp_keep ?_)
        refine hid ?_
        refine wpList_append_rd rfl _ _ 26 rfl w.heap.size 5 _ 1 1 Try.underlying26 infoU8 rfl (by decide) _ (l.length + k) (bv (l ++ le (IntKind.u64.wrap u) k)) rfl (O1.out.alloc _) _ 1 [.int .u8 (IntKind.u64.wrap u / 2 ^ (8 * k) % 256)] rfl (Rd.fresh1 _ _ _) (by simp [Value.oneCell']) (by simp only [maxLen]; omega) (by omega) (Nat.le_trans S1.out (by simp)) ?_
        intro pp cc w7 hown7 hg7 hb7
        have O7 := hid hown7
        have G7 := hid hg7
        clear hown7 hg7 hb7
        go_wp2_with fail
        go_roundw
        case rel =>
          have hbase : w.heap.size ≤ (wr.alloc (Obj.cells #[.int .u8 (IntKind.u64.wrap u / 2 ^ (8 * k) % 256)] 5)).heap.size := Nat.le_trans S1.out (by simp)
          refine ⟨k + 1, by omega, by go_num, .inr ⟨by omega, ?_⟩, (B1.out.alloc S1.out _).grown G7.out hbase (fun g hg => (O1.out.lt g hg).1), Nat.le_trans hbase G7.out.size⟩
          rw [bv_append, le_succ, ← List.append_assoc, ← bv_append]
          exact O7.out
        case measure => simp [intOf]; omega
      · obtain rfl : k = 8 := by omega
        go_wp2_with fail
        go_ret
        exact ⟨_, rfl, O1.out, B1.out⟩
end Go.Proofs.Ytplahohlmiphoaa
