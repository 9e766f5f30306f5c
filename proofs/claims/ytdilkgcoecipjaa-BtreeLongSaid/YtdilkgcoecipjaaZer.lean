/- append of noughts, onto bytes of one's own. -/
import Derived.Test.YtdilkgcoecipjaaHeap
import Derived.Test.YtdilkgcoecipjaaArr
import Derived.Test.YtdilkgcoecipjaaDisk
import Derived.Test.YtdilkgcoecipjaaU8
import Derived.Lib.AppendZerosOnto
namespace Go.Proofs.Ytdilkgcoecipjaa
open Go.RowKit
set_option linter.unusedVariables false

section
variable {P : Program}
theorem zeroCells_rep (v : Value) (k : Nat) : Builtin.zeroCells #[v] k = (List.replicate k v).toArray := by
  unfold Builtin.zeroCells
  apply Array.ext
  · simp
  · intro i h1 h2
    simp [Nat.mod_one]

theorem run_append_zeros_room (w : World) (t tn ty e : TypeId) (i : TypeInfo) (kq kn : IntKind) (ht : P.underlying t = some (.slice e)) (htn : P.underlying tn = some (.int kn)) (hi : P.info? e = some i) (hz : i.zero = some (.int .u8 0)) (hs : i.size = 1) (hb : i.bytes = 1)
    (g n cap k : Nat) (cur : List Value) (hg : Blk w g cur e) (hk : k ≤ 1000000) (hn : n + k ≤ cap) (hf : n + k ≤ cur.length) :
    (Builtin.append_ #[t, tn] ty #[.slice (some ⟨g, 0, none⟩) n cap, .int kq k]).run P w = .ok (.slice (some ⟨g, 0, none⟩) (n + k) cap) (w.setRow g (splice cur n (List.replicate k (.int .u8 0))).toArray) := by
  have hw : IntKind.i64.wrap (k : Int) = k := by rw [IntKind.wrap_i64]; omega
  have h48i : ¬ (281474976710656 < (k : Int)) := by omega
  have hneg : ¬ ((k : Int) < 0) := by omega
  have hst := run_storeCells_blk (P := P) w g n e cur (List.replicate k (.int .u8 0)) hg (by simpa using hf) (fun u hu => by rw [(List.mem_replicate.1 hu).2]; rfl)
  have hadd : (⟨g, 0, none⟩ : Addr).add n = ⟨g, n, none⟩ := by unfold Addr.add; split <;> simp_all
  have hw0 : IntKind.i64.wrap 0 = 0 := rfl
  by_cases hk0 : k = 0
  · subst hk0
    simp only [List.replicate_zero] at hst
    simp only [Nat.add_zero] at hn
    simp [Builtin.append_, run_underlying ht, run_underlying htn, sizeOf, typeInfo, hi, hs, asInt, asIntOf, hw0, hn, hst, hadd]
  · simp [Builtin.append_, run_underlying ht, run_underlying htn, sizeOf, typeInfo, zeroValue, hi, hz, hs, hb, asInt, asIntOf, hw, hn, hneg, h48i, hk0, Value.cells, zeroCells_rep, hst, hadd]

theorem run_append_zeros_own (w : World) (base : Nat) (t tn ty e : TypeId) (kq kn : IntKind) (ht : P.underlying t = some (.slice e)) (htn : P.underlying tn = some (.int kn))
    (hinf : (P.info? e).map (fun i => (i.zero, i.size, i.bytes)) = some (some (.int .u8 0), 1, 1)) (v : Value) (n : Nat) (xs : List Value) (hown : w.ownsRow base e 1 v n xs) (k : Nat) (hk : n + k ≤ 1000000) (hbase : base ≤ w.heap.size) :
    ∃ v' w', (Builtin.append_ #[t, tn] ty #[v, .int kq k]).run P w = .ok v' w' ∧ w'.ownsRow base e 1 v' (n + k) (xs ++ List.replicate k (.int .u8 0)) ∧ w.grownBy w' v.ownBlock ∧
      (v'.ownBlock = v.ownBlock ∨ v'.ownBlock = some w.heap.size) := by
  obtain ⟨i, hi, hz, hsz, hby⟩ := info_parts hinf
  have hlen : (xs ++ List.replicate k (Value.int .u8 0)).length = (n + k) * 1 := by rw [List.length_append, hown.1, List.length_replicate]; omega
  have h63 : n + k ≤ maxLen := by simp only [maxLen]; omega
  have grown : ∀ (old : Nat), old < n + k → ∀ (row : Option Nat),
      (w.drew.alloc (.cells (xs.toArray ++ Builtin.zeroCells #[Value.int .u8 0] k ++ Builtin.zeroCells #[Value.int .u8 0] (grownCap w (n + k) old e - (n + k))) e)).ownsRow base e 1
        (.slice (some ⟨w.heap.size, 0, none⟩) (n + k) (grownCap w (n + k) old e)) (n + k) (xs ++ List.replicate k (.int .u8 0)) ∧
      w.grownBy (w.drew.alloc (.cells (xs.toArray ++ Builtin.zeroCells #[Value.int .u8 0] k ++ Builtin.zeroCells #[Value.int .u8 0] (grownCap w (n + k) old e - (n + k))) e)) row := by
    intro old ho row
    have hge := grownCap_ge w (n + k) old e
    have hcm : grownCap w (n + k) old e ≤ maxLen := grownCap_le_maxLen w (n + k) old e h63
    refine ⟨⟨hlen, .inr ⟨w.heap.size, _, _, rfl, hbase, heap_alloc_new w.drew _, hge, hcm, ?_, ?_⟩⟩, ⟨rfl, rfl, rfl, by simp, fun q hq _ => Below.heap_alloc w.drew _ q hq⟩⟩
    · simp only [zeroCells_rep, Array.size_append, List.size_toArray, hown.1, List.length_replicate]
      omega
    · simp only [zeroCells_rep, Array.toList_append]
      rw [← hlen]
      exact List.take_left
  by_cases hk0 : k = 0
  · subst hk0
    rcases hown.2 with ⟨rfl, hx⟩ | ⟨g, cap', cur, rfl, hbg, hg, hnc, hcm', hcs, htake⟩
    · obtain rfl : n = 0 := hx
      obtain rfl : xs = [] := List.eq_nil_of_length_eq_zero (by simpa using hown.1)
      refine ⟨.slice none 0 0, w, ?_, World.ownsRow_nil w base e 1, World.grownBy.refl _ _, .inl rfl⟩
      have hw0 : IntKind.i64.wrap 0 = 0 := rfl
      simp [Builtin.append_, run_underlying ht, run_underlying htn, sizeOf, typeInfo, hi, asInt, asIntOf, hw0]
    · have hg' : Blk w g cur.toList e := by unfold Blk; rw [Array.toArray_toList]; exact hg
      have hr := run_append_zeros_room (P := P) w t tn ty e i kq kn ht htn hi hz hsz hby g n cap' 0 cur.toList hg' (by omega) (by omega) (by rw [Array.length_toList, hcs]; omega)
      refine ⟨_, _, hr, ⟨hlen, .inr ⟨g, cap', _, rfl, hbg, setRow_heap w g cur _ e _ hg, by omega, hcm', ?_, ?_⟩⟩, ⟨rfl, rfl, rfl, by simp, fun q _ hq => setRow_other w g q _ (fun e => hq (by simp [Value.ownBlock, e]))⟩, .inl rfl⟩
      · have hlx := hown.1
        simp [splice]; omega
      · simp [splice]
        have := htake
        simpa using this
  · rcases hown.2 with ⟨rfl, hx⟩ | ⟨g, cap', cur, rfl, hbg, hg, hnc, hcm', hcs, htake⟩
    · obtain rfl : n = 0 := hx
      obtain rfl : xs = [] := List.eq_nil_of_length_eq_zero (by simpa using hown.1)
      have hr := Go.Lib.run_append_nil_zeros (P := P) w t tn ty e i _ kq kn ht htn hi hz k (by omega) (by omega) (by omega) (by rw [hby]; omega)
      have hgr := grown 0 (by omega) (Value.ownBlock (.slice none 0 0))
      simp only [Nat.zero_add, List.nil_append, Array.empty_append] at hgr ⊢
      exact ⟨_, _, hr, hgr.1, hgr.2, .inr rfl⟩
    · by_cases hroom : n + k ≤ cap'
      · have hg' : Blk w g cur.toList e := by unfold Blk; rw [Array.toArray_toList]; exact hg
        have hcl : n + k ≤ cur.toList.length := by rw [Array.length_toList, hcs]; omega
        have hr := run_append_zeros_room (P := P) w t tn ty e i kq kn ht htn hi hz hsz hby g n cap' k cur.toList hg' (by omega) hroom hcl
        refine ⟨_, _, hr, ⟨hlen, .inr ⟨g, cap', _, rfl, hbg, setRow_heap w g cur _ e _ hg, hroom, hcm', ?_, ?_⟩⟩, ⟨rfl, rfl, rfl, by simp, fun q _ hq => setRow_other w g q _ (fun e => hq (by simp [Value.ownBlock, e]))⟩, .inl rfl⟩
        · rw [List.size_toArray, splice_length _ _ _ (by rw [List.length_replicate]; exact hcl), Array.length_toList, hcs]
        · have ht' : cur.toList.take n = xs := by simpa using htake
          unfold splice
          rw [ht', ← hlen, ← List.append_assoc]
          exact List.take_left
      · have hfc : (Builtin.firstCells i.size n (.slice (some ⟨g, 0, none⟩) n cap')).run P w.drew = .ok xs.toArray w.drew :=
          run_firstCells_some (P := P) w.drew i.size n ⟨g, 0, none⟩ n cap' xs (by rw [hsz]; exact hown.1) (fun j u hu => by
            have := hown.cells (g := g) rfl j u hu
            simpa using this)
        have hr := Go.Lib.run_append_grow_zeros (P := P) w t tn ty e i _ kq kn ht htn hi hz (some ⟨g, 0, none⟩) n cap' xs hfc k (by omega) (by omega) (by omega) (by omega) (by rw [hby]; omega) (growslice_fits (by omega) (by rw [hby]; omega))
        have hgr := grown cap' (by omega) (Value.ownBlock (.slice (some ⟨g, 0, none⟩) n cap'))
        exact ⟨_, _, hr, hgr.1, hgr.2, .inr rfl⟩

theorem wpList_append_zeros {w : World} {ops : Array Oper} {rest : List Oper} {o : Oper} {a : Act} {Q : Exit → Act → World → Prop} (hgd : o.guard = none) (s x : Operand) (t tn : TypeId)
    (ho : o.op = .call { callee := .builtin .append, args := #[s, x], argTypes := #[t, tn] }) (base : Nat) (e : TypeId) (kq kn : IntKind) (ht : P.underlying t = some (.slice e)) (htn : P.underlying tn = some (.int kn))
    (hinf : (P.info? e).map (fun i => (i.zero, i.size, i.bytes)) = some (some (.int .u8 0), 1, 1)) (v : Value) (n : Nat) (xs : List Value) (hs : a.eval s = v) (hown : w.ownsRow base e 1 v n xs) (k : Nat) (hx : a.eval x = .int kq k) (hk : n + k ≤ 1000000) (hbase : base ≤ w.heap.size)
    (h : ∀ (p' : Option Addr) (c' : Nat) w', w'.ownsRow base e 1 (.slice p' (n + k) c') (n + k) (xs ++ List.replicate k (.int .u8 0)) → w.grownBy w' v.ownBlock → wpList P ops Q rest (a.put o.dst (.slice p' (n + k) c')) w') :
    wpList P ops Q (o :: rest) a w := by
  obtain ⟨v', w', hr, h2, h3, h4⟩ := run_append_zeros_own (P := P) w base t tn o.type e kq kn ht htn hinf v n xs hown k hk hbase
  obtain ⟨p', c', rfl⟩ : ∃ p' c', v' = .slice p' (n + k) c' := by
    rcases h2.2 with ⟨h5, h6⟩ | ⟨g, cap, cur, h5, _⟩
    · exact ⟨none, 0, by rw [h5, h6]⟩
    · exact ⟨_, _, h5⟩
  exact Go.Lib.wpList_append_run w hgd s x t tn ho _ _ hs hx _ _ hr (h p' c' w' h2 h3)
end

/-- make([]byte, n): an equation -/
theorem make_bytes (k1 k2 : IntKind) (n : Nat) (hn : n ≤ 1000000) (w : World) : (Instr.makeSlice 30 (.int k1 n) (.int k2 n)).run Try.prog w = .ok (.slice (some ⟨w.heap.size, 0, none⟩) n n) (w.alloc (.cells (bv (List.replicate n 0)).toArray 5)) := by
  obtain ⟨i, hi, hz, hsz, hby⟩ := info_parts infoU8
  have h := run_makeSlice (P := Try.prog) (w := w) 30 5 i _ Try.underlying30 hi hz k1 k2 n n (by omega) (by omega) (by rw [hsz, Int.toNat_natCast]; omega) (by rw [hby]; omega) (by omega)
  rw [Int.toNat_natCast, hsz, made_bytes] at h
  exact h
end Go.Proofs.Ytdilkgcoecipjaa
