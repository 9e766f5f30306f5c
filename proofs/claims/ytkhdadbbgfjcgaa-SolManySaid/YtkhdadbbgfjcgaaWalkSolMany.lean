/- SolMany (printed by gen_solmany.py). -/
import Derived.Test.YtkhdadbbgfjcgaaSolOa
namespace Go.Proofs.Ytkhdadbbgfjcgaa
open Go.RowKit
set_option linter.unusedVariables false

def litS (c : UInt8) (i : Nat) : Sl := [([c], (3, [UInt8.ofNat i], [], []))]
theorem lit_ok (c : UInt8) (i : Nat) : OkS 1 (litS c i) := ⟨by simp [litS], List.pairwise_singleton _ _, fun q hq => by
  simp [litS] at hq; subst hq; exact ⟨by simp, by show (0 : Int) ≤ 3; decide, by show (3 : Int) ≤ 100; decide, by simp, by simp, by simp⟩⟩
theorem lit_meet (i j : Nat) : ∃ x, meetP (litS 97 i) (litS 98 j) = some x := ⟨_, rfl⟩
def litR (c : UInt8) (n : Nat) : List Sl := (List.range n).map (litS c)
theorem litR_len (c : UInt8) (n : Nat) : (litR c n).length = n := by simp [litR]
theorem litR_succ (c : UInt8) (n : Nat) : litR c (n + 1) = litR c n ++ [litS c n] := by simp [litR, List.range_succ]
theorem litR_ok (c : UInt8) (n : Nat) : ∀ s ∈ litR c n, OkS 1 s := fun s hs => by
  obtain ⟨i, _, rfl⟩ := List.mem_map.1 hs
  exact lit_ok c i
theorem lit_mts (i m : Nat) : (mts (litS 97 i) (litR 98 m)).length = m := by
  unfold mts litR
  rw [List.filterMap_map]
  have h : ∀ l : List Nat, (l.filterMap (meetP (litS 97 i) ∘ litS 98)).length = l.length := by
    intro l
    induction l with
    | nil => rfl
    | cons j l ih =>
      obtain ⟨x, hx⟩ := lit_meet i j
      rw [List.filterMap_cons_some (by simpa using hx), List.length_cons, List.length_cons, ih]
  rw [h, List.length_range]
theorem lit_all (n m : Nat) : (allP false (litR 97 n) (litR 98 m)).length = n * m := by
  unfold allP litR
  have h : ∀ l : List Nat, ((l.map (litS 97)).flatMap (rowP false ((List.range m).map (litS 98)))).length = l.length * m := by
    intro l
    induction l with
    | nil => simp
    | cons i l ih =>
      rw [List.map_cons, List.flatMap_cons, List.length_append, ih, List.length_cons, Nat.add_mul, Nat.one_mul]
      have h2 : (rowP false ((List.range m).map (litS 98)) (litS 97 i)).length = m := by
        unfold rowP; rw [if_neg (by simp)]; exact lit_mts i m
      rw [h2]; omega
  rw [h, List.length_range]
theorem u8_nat (k : Nat) (hk : k < 256) : Value.int .u8 (k : Int) = .int .u8 ((UInt8.ofNat k).toNat : Int) := by
  rw [UInt8.toNat_ofNat']
  congr 2
  omega

set_option maxRecDepth 100000 in
set_option maxHeartbeats 8000000 in
theorem solMany_walk (a0 a1 : Int) (w : World) (w0 : (Lit.int .i64 a0).wf = true) (w1 : (Lit.int .i64 a1).wf = true) :
    Calls Try.prog 4 #[.int .i64 a0, .int .i64 a1] w fun e w' => e = .returned (.bool true) ∧ Below w.heap.size w w' := by
  clear w0 w1
  go_enter Try.func4, Try.ntmps4
  go_wp2_with fail
  refine (known_any w).mono ?_; rintro e v1 ⟨rfl, hb1⟩
  have HBk := hid hb1
  clear hb1
  go_wp2_with fail
  refine (within16_any a0 8 v1 (by omega) (by omega)).mono ?_; rintro e v2 ⟨rfl, hw⟩; subst hw
  have h0 := Int.emod_nonneg a0 (show (8 : Int) ≠ 0 by omega)
  have h1 := Int.emod_lt_of_pos a0 (show (0 : Int) < 8 by omega)
  obtain ⟨n, hn⟩ : ∃ n : Nat, 38 + a0 % 8 = (n : Int) := ⟨(38 + a0 % 8).toNat, by omega⟩
  have hn1 : n ≤ 45 := by omega
  have hn0 : 38 ≤ n := by omega
  generalize a0 % 8 = r0 at *
  have hnw : IntKind.i64.wrap (n : Int) = (n : Int) := IntWalk.i64_in _ (by omega)
  clear h0 h1
  go_wp2_with fail
  refine (within16_any a1 7 v1 (by omega) (by omega)).mono ?_; rintro e v2 ⟨rfl, hw⟩; subst hw
  have h2 := Int.emod_nonneg a1 (show (7 : Int) ≠ 0 by omega)
  have h3 := Int.emod_lt_of_pos a1 (show (0 : Int) < 7 by omega)
  obtain ⟨m, hm⟩ : ∃ m : Nat, 46 + a1 % 7 = (m : Int) := ⟨(46 + a1 % 7).toNat, by omega⟩
  have hm1 : m ≤ 52 := by omega
  have hm0 : 46 ≤ m := by omega
  generalize a1 % 7 = r1 at *
  have hmw : IntKind.i64.wrap (m : Int) = (m : Int) := IntWalk.i64_in _ (by omega)
  have hr1 : 0 ≤ r1 ∧ r1 ≤ 6 := by omega
  clear h2 h3
  go_wp2_with fail
  go_loopw [5, 7] (fun vo vi wr => ∃ (i : Nat) (p : Option Addr) (cp : Nat) (o : List Sl), vo = .slice p i cp ∧ vi = .int .i64 i ∧ i ≤ n ∧ Hid (o = litR 97 i) ∧ Hid (o.length = i) ∧ Hid (OwnL v1.heap.size wr (.slice p i cp) o) ∧ Hid (Below v1.heap.size v1 wr)) (fun vo vi _ => n + 1 - (intOf vi).toNat)
  case atStart => exact ⟨0, none, 0, [], rfl, rfl, Nat.zero_le _, rfl, rfl, OwnL.nil _ _, Below.refl _ _⟩
  case round =>
    obtain ⟨i, p, cp, o, rfl, rfl, hi, HO1, HK, HO, HB⟩ := hrel
    have hsz := HB.out.size
    by_cases hlt : i < n
    · have hlt2 : (i : Int) < (n : Int) := by omega
      have hu8 : IntKind.u8.wrap (i : Int) = (i : Int) := IntWalk.u8_in _ (by omega)
      have hub := u8_nat i (by omega)
      obtain ⟨bt, hbt⟩ : ∃ bt : UInt8, UInt8.ofNat i = bt := ⟨_, rfl⟩
      rw [hbt] at hub
      have HBT := hid hbt
      have hz0 : Blk (wr.alloc (Obj.cells ([.int .u8 (i : Int)] : List Value).toArray 5)) wr.heap.size [.int .u8 (i : Int)] 5 := heap_alloc_new wr _
      have hb0 := (Below.refl wr.heap.size wr).alloc (Nat.le_refl _) (Obj.cells ([.int .u8 (i : Int)] : List Value).toArray 5)
      have hbs : Bs (wr.alloc (Obj.cells ([.int .u8 (i : Int)] : List Value).toArray 5)) (.slice (some ⟨wr.heap.size, 0, none⟩) 1 1) [bt] := by
        unfold Bs
        have h := Rd.blk (off := 0) (n := 1) (c := 1) (size := 1) hz0 (Nat.le_refl _) one_le_maxLen (by simp)
        rw [hub] at h
        simpa [bv, hub] using h
      have HBS := hid hbs
      have HB0 := hid hb0
      have HO2 := hid (HO.out.new hb0)
      clear hz0 hb0 hbs hbt hub
      go_wp2_with (first | (at_builtin; refine wp_keep ?_) | (refine wpList_bytes_str rfl 34 9 _ rfl 5 Try.underlying34 Try.underlying5 Try.underlying9 _ [bt] rfl HBS.out ?_))
      refine hid ?_
      obtain ⟨x1, e1⟩ : ∃ x, wr.alloc (Obj.cells ([.int .u8 (i : Int)] : List Value).toArray 5) = x := ⟨_, rfl⟩
      have z1 : x1.heap.size = wr.heap.size + 1 := by rw [← e1]; simp
      rw [e1] at HB0 HO2
      have e1' : wr.alloc (Obj.cells #[Value.int .u8 (i : Int)] 5) = x1 := e1
      simp only [e1']
      clear e1 e1' HBS
      have h2 : Blk (x1.alloc (Obj.cells (pc ([97], (3, [bt], [], []))).toArray TP)) x1.heap.size (pc ([97], (3, [bt], [], []))) TP := heap_alloc_new x1 _
      have b2 := (Below.refl x1.heap.size x1).alloc (Nat.le_refl _) (Obj.cells (pc ([97], (3, [bt], [], []))).toArray TP)
      have z2 : (x1.alloc (Obj.cells (pc ([97], (3, [bt], [], []))).toArray TP)).heap.size = wr.heap.size + 1 + 1 := by simp; omega
      obtain ⟨x2, e2⟩ : ∃ x, x1.alloc (Obj.cells (pc ([97], (3, [bt], [], []))).toArray TP) = x := ⟨_, rfl⟩
      rw [e2] at h2 b2 z2
      have e2' : x1.alloc (Obj.cells #[Value.string { data := #[97] }, Value.int IntKind.i64 3, Value.string { data := #[bt] }, Value.string { data := #[] }, Value.string { data := #[] }] TP) = x2 := e2
      simp only [e2']
      clear e2 e2'
      rw [z1] at h2
      have h3 : Blk (x2.alloc (Obj.cells ([.slice (some ⟨wr.heap.size + 1, 0, none⟩) 1 1] : List Value).toArray TL)) x2.heap.size [.slice (some ⟨wr.heap.size + 1, 0, none⟩) 1 1] TL := heap_alloc_new x2 _
      have b3 := (Below.refl x2.heap.size x2).alloc (Nat.le_refl _) (Obj.cells ([.slice (some ⟨wr.heap.size + 1, 0, none⟩) 1 1] : List Value).toArray TL)
      obtain ⟨x3, e3⟩ : ∃ x, x2.alloc (Obj.cells ([.slice (some ⟨wr.heap.size + 1, 0, none⟩) 1 1] : List Value).toArray TL) = x := ⟨_, rfl⟩
      rw [e3] at h3 b3
      have e3' : x2.alloc (Obj.cells #[.slice (some ⟨wr.heap.size + 1, 0, none⟩) 1 1] TL) = x3 := e3
      simp only [e3']
      clear e3 e3'
      rw [z2] at h3
      have hls : litS 97 i = [([97], (3, [bt], [], []))] := by unfold litS; rw [HBT.out]
      have hs2 : SolAt x2 (.slice (some ⟨wr.heap.size + 1, 0, none⟩) 1 1) (litS 97 i) := by rw [hls]; exact SolAt.lit h2
      have hr := SolsAt.one h3 (hs2.new b3)
      have hoz := (HO2.out.new b2).new b3
      have hbz := HB.out.trans (((HB0.out.trans (b2.mono (by omega))).trans (b3.mono (by omega))).mono hsz)
      clear h2 b2 z2 h3 b3 hls hs2 z1
      refine wpList_append_sols rfl _ _ rfl v1.heap.size _ o rfl hoz _ [litS 97 i] rfl hr (by rw [HK.out]; simp; omega) hbz.size ?_
      intro p4 c4 w4 ho4 hb4 hk4
      have HK4 := hid (show o.length + [litS 97 i].length = i + 1 by rw [HK.out]; rfl)
      rw [HK4.out] at ho4 ⊢
      have HO4 := hid ho4
      have HB4 := hid (hbz.trans hb4)
      clear ho4 hb4 hk4 hr hoz hbz
      go_wp2_with fail
      case roundEnd => exact ⟨⟨i + 1, p4, c4, o ++ [litS 97 i], rfl, by go_num, by omega, hid (by rw [litR_succ, ← HO1.out]), hid (by rw [List.length_append, HK.out]; rfl), HO4, HB4⟩, by simp [intOf]; omega⟩
    · have hlt2 : ¬ (i : Int) < (n : Int) := by omega
      obtain rfl : n = i := by omega
      have HO3 := HO
      have HB3 := HB
      go_wp2_with fail
      have HA3 := HO
      have HBv := HB
      rw [HO1.out] at HA3
      obtain ⟨v3, hv3⟩ : ∃ v, wr = v := ⟨_, rfl⟩
      rw [hv3] at HA3 HBv ⊢
      clear HO HB HO3 HB3 HO1 HK hv3
      go_loopw [6, 8] (fun vo vi wr => ∃ (i : Nat) (p : Option Addr) (cp : Nat) (o : List Sl), vo = .slice p i cp ∧ vi = .int .i64 i ∧ i ≤ m ∧ Hid (o = litR 98 i) ∧ Hid (o.length = i) ∧ Hid (OwnL v3.heap.size wr (.slice p i cp) o) ∧ Hid (Below v3.heap.size v3 wr)) (fun vo vi _ => m + 1 - (intOf vi).toNat)
      case atStart => exact ⟨0, none, 0, [], rfl, rfl, Nat.zero_le _, rfl, rfl, OwnL.nil _ _, Below.refl _ _⟩
      case round =>
        obtain ⟨i, p, cp, o, rfl, rfl, hi, HO1, HK, HO, HB⟩ := hrel
        have hsz := HB.out.size
        by_cases hlt : i < m
        · have hlt2 : (i : Int) < (m : Int) := by omega
          have hu8 : IntKind.u8.wrap (i : Int) = (i : Int) := IntWalk.u8_in _ (by omega)
          have hub := u8_nat i (by omega)
          obtain ⟨bt, hbt⟩ : ∃ bt : UInt8, UInt8.ofNat i = bt := ⟨_, rfl⟩
          rw [hbt] at hub
          have HBT := hid hbt
          have hz0 : Blk (wr.alloc (Obj.cells ([.int .u8 (i : Int)] : List Value).toArray 5)) wr.heap.size [.int .u8 (i : Int)] 5 := heap_alloc_new wr _
          have hb0 := (Below.refl wr.heap.size wr).alloc (Nat.le_refl _) (Obj.cells ([.int .u8 (i : Int)] : List Value).toArray 5)
          have hbs : Bs (wr.alloc (Obj.cells ([.int .u8 (i : Int)] : List Value).toArray 5)) (.slice (some ⟨wr.heap.size, 0, none⟩) 1 1) [bt] := by
            unfold Bs
            have h := Rd.blk (off := 0) (n := 1) (c := 1) (size := 1) hz0 (Nat.le_refl _) one_le_maxLen (by simp)
            rw [hub] at h
            simpa [bv, hub] using h
          have HBS := hid hbs
          have HB0 := hid hb0
          have HO2 := hid (HO.out.new hb0)
          clear hz0 hb0 hbs hbt hub
          go_wp2_with (first | (at_builtin; refine wp_keep ?_) | (refine wpList_bytes_str rfl 34 9 _ rfl 5 Try.underlying34 Try.underlying5 Try.underlying9 _ [bt] rfl HBS.out ?_))
          refine hid ?_
          obtain ⟨x1, e1⟩ : ∃ x, wr.alloc (Obj.cells ([.int .u8 (i : Int)] : List Value).toArray 5) = x := ⟨_, rfl⟩
          have z1 : x1.heap.size = wr.heap.size + 1 := by rw [← e1]; simp
          rw [e1] at HB0 HO2
          have e1' : wr.alloc (Obj.cells #[Value.int .u8 (i : Int)] 5) = x1 := e1
          simp only [e1']
          clear e1 e1' HBS
          have h2 : Blk (x1.alloc (Obj.cells (pc ([98], (3, [bt], [], []))).toArray TP)) x1.heap.size (pc ([98], (3, [bt], [], []))) TP := heap_alloc_new x1 _
          have b2 := (Below.refl x1.heap.size x1).alloc (Nat.le_refl _) (Obj.cells (pc ([98], (3, [bt], [], []))).toArray TP)
          have z2 : (x1.alloc (Obj.cells (pc ([98], (3, [bt], [], []))).toArray TP)).heap.size = wr.heap.size + 1 + 1 := by simp; omega
          obtain ⟨x2, e2⟩ : ∃ x, x1.alloc (Obj.cells (pc ([98], (3, [bt], [], []))).toArray TP) = x := ⟨_, rfl⟩
          rw [e2] at h2 b2 z2
          have e2' : x1.alloc (Obj.cells #[Value.string { data := #[98] }, Value.int IntKind.i64 3, Value.string { data := #[bt] }, Value.string { data := #[] }, Value.string { data := #[] }] TP) = x2 := e2
          simp only [e2']
          clear e2 e2'
          rw [z1] at h2
          have h3 : Blk (x2.alloc (Obj.cells ([.slice (some ⟨wr.heap.size + 1, 0, none⟩) 1 1] : List Value).toArray TL)) x2.heap.size [.slice (some ⟨wr.heap.size + 1, 0, none⟩) 1 1] TL := heap_alloc_new x2 _
          have b3 := (Below.refl x2.heap.size x2).alloc (Nat.le_refl _) (Obj.cells ([.slice (some ⟨wr.heap.size + 1, 0, none⟩) 1 1] : List Value).toArray TL)
          obtain ⟨x3, e3⟩ : ∃ x, x2.alloc (Obj.cells ([.slice (some ⟨wr.heap.size + 1, 0, none⟩) 1 1] : List Value).toArray TL) = x := ⟨_, rfl⟩
          rw [e3] at h3 b3
          have e3' : x2.alloc (Obj.cells #[.slice (some ⟨wr.heap.size + 1, 0, none⟩) 1 1] TL) = x3 := e3
          simp only [e3']
          clear e3 e3'
          rw [z2] at h3
          have hls : litS 98 i = [([98], (3, [bt], [], []))] := by unfold litS; rw [HBT.out]
          have hs2 : SolAt x2 (.slice (some ⟨wr.heap.size + 1, 0, none⟩) 1 1) (litS 98 i) := by rw [hls]; exact SolAt.lit h2
          have hr := SolsAt.one h3 (hs2.new b3)
          have hoz := (HO2.out.new b2).new b3
          have hbz := HB.out.trans (((HB0.out.trans (b2.mono (by omega))).trans (b3.mono (by omega))).mono hsz)
          clear h2 b2 z2 h3 b3 hls hs2 z1
          refine wpList_append_sols rfl _ _ rfl v3.heap.size _ o rfl hoz _ [litS 98 i] rfl hr (by rw [HK.out]; simp; omega) hbz.size ?_
          intro p4 c4 w4 ho4 hb4 hk4
          have HK4 := hid (show o.length + [litS 98 i].length = i + 1 by rw [HK.out]; rfl)
          rw [HK4.out] at ho4 ⊢
          have HO4 := hid ho4
          have HB4 := hid (hbz.trans hb4)
          clear ho4 hb4 hk4 hr hoz hbz
          go_wp2_with fail
          case roundEnd => exact ⟨⟨i + 1, p4, c4, o ++ [litS 98 i], rfl, by go_num, by omega, hid (by rw [litR_succ, ← HO1.out]), hid (by rw [List.length_append, HK.out]; rfl), HO4, HB4⟩, by simp [intOf]; omega⟩
        · have hlt2 : ¬ (i : Int) < (m : Int) := by omega
          obtain rfl : m = i := by omega
          have HO3 := HO
          have HB3 := HB
          go_wp2_with fail
          have HC3 := HO
          rw [HO1.out] at HC3
          have HA4 := hid (HA3.out.at.new HB.out)
          have hln := litR_len 97 n
          have hlm := litR_len 98 m
          have HLN := hid hln
          have HLM := hid hlm
          have HALL := hid (lit_all n m)
          have hpr : n * m ≤ 2340 := Nat.le_trans (Nat.mul_le_mul hn1 hm1) (by omega)
          have HJ : Hid ((jnP false (litR 97 n) (litR 98 m)) = if n * m ≤ 2000 then some (srt textP (allP false (litR 97 n) (litR 98 m))) else none) := hid (by unfold jnP; rw [HALL.out])
          obtain ⟨q, hq⟩ : ∃ q : Nat, n * m = q := ⟨_, rfl⟩
          have hq2 : (n : Int) * (m : Int) = (q : Int) := by rw [← hq]; exact (Int.natCast_mul n m).symm
          rw [hq] at hpr HJ HALL
          have hqw : IntKind.i64.wrap (q : Int) = (q : Int) := IntWalk.i64_in _ (by omega)
          clear hln hlm hq
          refine (join_any (litR 97 n) (litR 98 m) _ _ wr 1 1 HA4.out HC3.out.at (litR_ok 97 n) (litR_ok 98 m) (by omega) (by rw [HLN.out]; omega) (by rw [HLM.out]; omega)).mono ?_
          rintro e w5 ⟨p5, c5, rfl, _, hb5⟩
          have HB5 := hid ((HBk.out.trans (HBv.out.mono HBk.out.size)).trans ((HB.out.mono (HBk.out.trans (HBv.out.mono HBk.out.size)).size).trans (hb5.mono (by have := (HBk.out.trans (HBv.out.mono HBk.out.size)).size; have := HB.out.size; omega))))
          clear hb5
          by_cases h2000 : q ≤ 2000
          · have h20 : ¬ (2000 : Int) < (q : Int) := by omega
            rw [HJ.out, if_pos h2000]
            simp only [Option.getD_some, Option.isSome_some, if_true, srt_len, HALL.out]
            go_wp2_with fail
            go_ret
            exact ⟨rfl, HB5.out⟩
          · have h20 : (2000 : Int) < (q : Int) := by omega
            rw [HJ.out, if_neg h2000]
            simp only [Option.getD_none, Option.isSome_none, List.length_nil]
            go_wp2_with fail
            go_ret
            exact ⟨rfl, HB5.out⟩
end Go.Proofs.Ytkhdadbbgfjcgaa
