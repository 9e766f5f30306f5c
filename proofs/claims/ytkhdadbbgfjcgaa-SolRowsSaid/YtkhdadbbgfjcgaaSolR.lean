/- triadref16: Set, Get. -/
import Derived.Test.YtkhdadbbgfjcgaaSolM
namespace Go.Proofs.Ytkhdadbbgfjcgaa
open Go.RowKit
set_option linter.unusedVariables false

theorem SolAt.cap {w : World} {p : Option Addr} {n c : Nat} {s : Sl} (h : SolAt w (.slice p n c) s) : s.length ≤ c ∧ c ≤ maxLen ∧ (p = none → c = 0) := by
  obtain ⟨⟨_, q, c', he, h1, h2, h3, _⟩, _⟩ := h
  cases he
  exact ⟨h1, h2, h3⟩
theorem OwnP.app {B0 : Nat} {w : World} {v : Value} {a b c : Sl} (h : w.ownsRow B0 TP 5 v (a.length + b.length) (pcs a ++ pcs b)) (e : a ++ b = c) : OwnP B0 w v c := by
  subst e
  unfold OwnP
  rw [List.length_append, pcs_append]; exact h

set_option maxRecDepth 100000 in
set_option maxHeartbeats 4000000 in
theorem rSet_any (s : Sl) (v0 : Value) (v : List UInt8) (t : T4) (w : World) (n : Nat) (hs : SolAt w v0 s) (ho : OkS n s) (hn : n ≤ 400) (ht : OkT t) :
    Calls Try.prog 65 #[v0, .string (B v), tv t] w (Res w.heap.size w (setP s v t)) := by
  obtain ⟨p, c, rfl⟩ := hs.shape
  have hsl := ho.len
  have HS := hid hs
  have HA := hid ho
  have HT := hid ht
  clear hs ho ht
  go_enter Try.func65, Try.ntmps65
  have hcap := HS.out.cap
  have hz := heap_alloc_new w (Obj.cells (tc t).toArray TT)
  have hzb := (Below.refl w.heap.size w).alloc (Nat.le_refl _) (Obj.cells (tc t).toArray TT)
  have hS0 := HS.out.new hzb
  go_wp2_with fail
  generalize w.alloc (Obj.cells (tc t).toArray TT) = w0 at hz hzb hS0 ⊢
  have hlt : w.heap.size < w0.heap.size := (Array.getElem?_eq_some_iff.1 hz).1
  obtain ⟨k0, k1, k2, k3, _, _, _, _⟩ := blk4 (x0 := .int .i64 t.1) (x1 := .string (B t.2.1)) (x2 := .string (B t.2.2.1)) (x3 := .string (B t.2.2.2)) hz
  have HB := hid hzb
  have HS0 := hid hS0
  have HZ : Hid (Blk w0 w.heap.size [.int .i64 t.1, .string (B t.2.1), .string (B t.2.2.1), .string (B t.2.2.2)] TT) := hid hz
  clear hz hzb hS0
  go_loopw [8] (fun vi wr => ∃ i : Nat, vi = .int .i64 i ∧ i ≤ s.length ∧ wr = w0 ∧ Hid (∀ x (hx : x < s.length), x < i → ltB (s[x]).1 v = true)) (fun vi _ => s.length + 1 - (intOf vi).toNat)
  case atStart => exact ⟨0, rfl, Nat.zero_le _, rfl, hid (fun x _ h => by omega)⟩
  case round =>
    obtain ⟨i, rfl, hi, rfl, H1⟩ := hrel
    by_cases hil : i < s.length
    · have hil2 : (i : Int) < (s.length : Int) := by omega
      obtain ⟨b, off, rfl, c0, c1, c2, c3, c4⟩ := HS0.out.at hil
      by_cases hc : Op.bytesLess (s[i]).1 v = true
      · go_wp2_with fail
        go_roundw
        case rel => exact ⟨i + 1, by go_num, by omega, by first | exact rfl | exact trivial, hid (fun x hx h => by
          rcases Nat.lt_or_ge x i with h' | h'
          · exact H1.out x hx h'
          · have : x = i := by omega
            subst this; exact hc)⟩
        case measure => simp [intOf]; omega
      · have hc2 : Op.bytesLess (s[i]).1 v = false := by simpa using hc
        have hrk : rk s v = i := rk_of hi H1.out (fun _ => hc2)
        have hok : OkT (s[i]).2 := (HA.out.ok _ (List.getElem_mem hil)).2
        have heq := fun w => eq_t (w := w) hok HT.out
        have hgd := guard_t
        have HRK := hid hrk
        clear hc hrk hok
        by_cases he : (s[i]).1 = v
        · have he2 : ((s[i]).1 == v) = true := by rw [beq_iff_eq]; exact he
          by_cases h2 : (s[i]).2 = t
          · have h3 : ((s[i]).2 == t) = true := by rw [beq_iff_eq]; exact h2
            have hset : setP s v t = some s := by
              have h := HRK.out
              subst h
              exact setP_same hil he h2
            have HSET := hid hset
            clear hset he h2
            go_wp2_with fail
            go_still_tail 6, (by kernel_rfl)
            go_wp2_with (at_builtin; refine wp_keep ?_)
            refine hid ?_
            refine wpList_append_rd rfl _ _ TL rfl w.heap.size TP _ 5 72 Try.underlying27 infoP rfl (by decide) _ 0 [] rfl (own_empty wr.drew TP 5 _ (by simpa using Nat.le_of_lt hlt)) _ s.length (pcs s) rfl (HS0.out.new (w' := wr.drew.alloc (Obj.cells #[] TP)) ((Below.refl _ _).drew.alloc (by simp) _)).1 (pcs_one s) (by simp only [maxLen]; omega) (by omega) (by simp; omega) ?_
            intro p2 c2 w2 ho2 hg2 _
            have hb : Below w.heap.size w w2 := (HB.out.drew.alloc (by simpa using Nat.le_of_lt hlt) _).grown hg2 (by simp; omega) (by intro k hk; cases hk; simpa using Nat.le_of_lt hlt)
            rw [Nat.zero_add] at ho2 ⊢
            rw [List.nil_append] at ho2
            have HO := hid ho2
            have HB2 := hid hb
            clear ho2 hb hg2
            go_wp2_with fail
            go_ret2
            rw [HSET.out]
            exact ⟨p2, c2, rfl, HO.out, HB2.out⟩
          · have h3 : ((s[i]).2 == t) = false := by rw [beq_eq_false_iff_ne]; exact h2
            have hset : setP s v t = none := by
              have h := HRK.out
              subst h
              exact setP_other hil he h2
            have HSET := hid hset
            clear hset he h2
            go_wp2_with fail
            go_still_tail 6, (by kernel_rfl)
            go_wp2_with fail
            go_ret2
            rw [HSET.out]
            exact ⟨none, 0, rfl, World.ownsRow_nil _ _ _ _, HB.out.drew⟩
        · have he2 : ((s[i]).1 == v) = false := by rw [beq_eq_false_iff_ne]; exact he
          have hrk := HRK.out
          have hset : setP s v t = some (s.take i ++ (v, t) :: s.drop i) := by
            have h := hrk
            subst h
            exact setP_new (fun _ => he)
          have HSET := hid hset
          clear hset hrk
          have hic : (i : Int) ≤ (c : Int) := by have := hcap.1; omega
          have hci : ¬ c = i := by have := hcap.1; omega
          go_wp2_with (at_builtin; refine wp_keep ?_)
          refine hid ?_
          have hse := HS0.out.new ((Below.refl wr.heap.size wr).alloc (Nat.le_refl _) (Obj.cells #[] TP))
          have hst := slice_rd_of _ 5 _ _ _ _ hse.1 0 i (Nat.zero_le _) hi
          have hrd1 : Rd (wr.alloc (Obj.cells #[] TP)) 5 (.slice (some ⟨b, off, none⟩) i c) i (pcs (s.take i)) := by
            have h := hst.1
            rw [Nat.zero_mul, List.drop_zero, pcs_take] at h
            simp only [Nat.sub_zero] at h
            have e : (if c = 0 then ((some ⟨b, off, none⟩) : Option Addr) else ((some ⟨b, off, none⟩) : Option Addr).map (·.add 0)) = (some ⟨b, off, none⟩) := by
              split
              · rfl
              · cases h0 : ((some ⟨b, off, none⟩) : Option Addr) <;> simp [Addr.add]
            rw [e] at h
            exact h
          refine wpList_append_rd rfl _ _ TL rfl w.heap.size TP _ 5 72 Try.underlying27 infoP rfl (by decide) _ 0 [] rfl (own_empty wr TP 5 _ (Nat.le_of_lt hlt)) _ i (pcs (s.take i)) rfl hrd1 (pcs_one _) (by simp only [maxLen]; omega) (by omega) (by simp; omega) ?_
          intro p2 c2 w2 ho2 hg2 _
          rw [Nat.zero_add] at ho2 ⊢
          rw [List.nil_append] at ho2
          have hb2 : Below w.heap.size w w2 := (HB.out.alloc (Nat.le_of_lt hlt) _).grown hg2 (by simp; omega) (by intro k hk; cases hk; exact Nat.le_of_lt hlt)
          have hz2 : Blk w2 w.heap.size [.int .i64 t.1, .string (B t.2.1), .string (B t.2.2.1), .string (B t.2.2.2)] TT := (Chg.grown hg2).heap ((Lib.alloc_old _ _ _ hlt).trans HZ.out) (by intro h; have h2 : wr.heap.size = w.heap.size := Option.some.inj h; omega)
          obtain ⟨m0, m1, m2, m3, _, _, _, _⟩ := blk4 hz2
          have hsz2 := hb2.size
          have HO2 := hid ho2
          have HB2 := hid hb2
          clear ho2 hg2 hb2 hz2 hse hst hrd1
          go_wp2_with (at_builtin; refine wp_keep ?_)
          refine hid ?_
          have hx3 : Blk (w2.alloc (Obj.cells (pc (v, t)).toArray TP)) w2.heap.size (pc (v, t)) TP := heap_alloc_new w2 _
          refine wpList_append_rd rfl _ _ TL rfl w.heap.size TP _ 5 72 Try.underlying27 infoP rfl (by decide) _ i (pcs (s.take i)) rfl (HO2.out.alloc _) _ 1 (pc (v, t)) rfl (rd_one hx3) (pc_one _) (by simp only [maxLen]; omega) (by omega) (by simp; omega) ?_
          intro p3 c3 w3 ho3 hg3 _
          have hb3 : Below w.heap.size w w3 := (HB2.out.alloc hsz2 _).grown hg3 (by simp; omega) (fun k hk => (HO2.out.lt k hk).1)
          have hsz3 := hb3.size
          have HO3 := hid ho3
          have HB3 := hid hb3
          clear ho3 hg3 hb3 hx3 m0 m1 m2 m3
          go_wp2_with (at_builtin; refine wp_keep ?_)
          refine hid ?_
          have hst3 := (slice_rd_of w3 5 _ _ _ _ (HS.out.new HB3.out).1 i s.length hi (Nat.le_refl _)).1
          rw [pcs_drop, List.take_of_length_le (l := pcs (s.drop i)) (by rw [pcs_length, List.length_drop]; exact Nat.le_refl _), if_neg hci, Option.map_some, Addr.add_off _ rfl] at hst3
          refine wpList_append_rd rfl _ _ TL rfl w.heap.size TP _ 5 72 Try.underlying27 infoP rfl (by decide) _ (i + 1) (pcs (s.take i) ++ pc (v, t)) rfl HO3.out _ (s.length - i) (pcs (s.drop i)) rfl hst3 (pcs_one _) (by simp only [maxLen]; omega) (by omega) hsz3 ?_
          intro p4 c4 w4 ho4 hg4 _
          have hb4 : Below w.heap.size w w4 := HB3.out.grown hg4 hsz3 (fun k hk => (HO3.out.lt k hk).1)
          have HO4 := hid ho4
          have HB4 := hid hb4
          clear ho4 hg4 hb4 hst3
          go_wp2_with fail
          go_ret2
          rw [HSET.out]
          have hln : (s.take i ++ (v, t) :: s.drop i).length = i + 1 + (s.length - i) := by simp; omega
          refine ⟨p4, c4, ?_, ?_, HB4.out⟩
          · show Ending.returned (.tuple #[.slice p4 (i + 1 + (s.length - i)) c4, .bool true]) = .returned (.tuple #[.slice p4 (s.take i ++ (v, t) :: s.drop i).length c4, .bool true])
            rw [hln]
          · show OwnP w.heap.size w4 (.slice p4 (s.take i ++ (v, t) :: s.drop i).length c4) (s.take i ++ (v, t) :: s.drop i)
            unfold OwnP
            rw [hln, pcs_append, pcs_cons, ← List.append_assoc]
            exact HO4.out
    · have hil2 : ¬ (i : Int) < (s.length : Int) := by omega
      have hrk : rk s v = i := rk_of hi H1.out (fun h => absurd h hil)
      have hm0 : s.length - i = 0 := by omega
      by_cases hci : c = i
      · obtain rfl : i = c := hci.symm
        have hset : setP s v t = some (s.take i ++ (v, t) :: s.drop i) := by
          have h := hrk
          subst h
          exact setP_new (fun h => absurd h hil)
        have HSET := hid hset
        clear hset hrk
        have hic : (i : Int) ≤ (i : Int) := by have := hcap.1; omega
        go_wp2_with (at_builtin; refine wp_keep ?_)
        refine hid ?_
        have hse := HS0.out.new ((Below.refl wr.heap.size wr).alloc (Nat.le_refl _) (Obj.cells #[] TP))
        have hst := slice_rd_of _ 5 _ _ _ _ hse.1 0 i (Nat.zero_le _) hi
        have hrd1 : Rd (wr.alloc (Obj.cells #[] TP)) 5 (.slice p i i) i (pcs (s.take i)) := by
          have h := hst.1
          rw [Nat.zero_mul, List.drop_zero, pcs_take] at h
          simp only [Nat.sub_zero] at h
          have e : (if i = 0 then (p : Option Addr) else (p : Option Addr).map (·.add 0)) = p := by
            split
            · rfl
            · cases h0 : (p : Option Addr) <;> simp [Addr.add]
          rw [e] at h
          exact h
        refine wpList_append_rd rfl _ _ TL rfl w.heap.size TP _ 5 72 Try.underlying27 infoP rfl (by decide) _ 0 [] rfl (own_empty wr TP 5 _ (Nat.le_of_lt hlt)) _ i (pcs (s.take i)) rfl hrd1 (pcs_one _) (by simp only [maxLen]; omega) (by omega) (by simp; omega) ?_
        intro p2 c2 w2 ho2 hg2 _
        rw [Nat.zero_add] at ho2 ⊢
        rw [List.nil_append] at ho2
        have hb2 : Below w.heap.size w w2 := (HB.out.alloc (Nat.le_of_lt hlt) _).grown hg2 (by simp; omega) (by intro k hk; cases hk; exact Nat.le_of_lt hlt)
        have hz2 : Blk w2 w.heap.size [.int .i64 t.1, .string (B t.2.1), .string (B t.2.2.1), .string (B t.2.2.2)] TT := (Chg.grown hg2).heap ((Lib.alloc_old _ _ _ hlt).trans HZ.out) (by intro h; have h2 : wr.heap.size = w.heap.size := Option.some.inj h; omega)
        obtain ⟨m0, m1, m2, m3, _, _, _, _⟩ := blk4 hz2
        have hsz2 := hb2.size
        have HO2 := hid ho2
        have HB2 := hid hb2
        clear ho2 hg2 hb2 hz2 hse hst hrd1
        go_wp2_with (at_builtin; refine wp_keep ?_)
        refine hid ?_
        have hx3 : Blk (w2.alloc (Obj.cells (pc (v, t)).toArray TP)) w2.heap.size (pc (v, t)) TP := heap_alloc_new w2 _
        refine wpList_append_rd rfl _ _ TL rfl w.heap.size TP _ 5 72 Try.underlying27 infoP rfl (by decide) _ i (pcs (s.take i)) rfl (HO2.out.alloc _) _ 1 (pc (v, t)) rfl (rd_one hx3) (pc_one _) (by simp only [maxLen]; omega) (by omega) (by simp; omega) ?_
        intro p3 c3 w3 ho3 hg3 _
        have hb3 : Below w.heap.size w w3 := (HB2.out.alloc hsz2 _).grown hg3 (by simp; omega) (fun k hk => (HO2.out.lt k hk).1)
        have hsz3 := hb3.size
        have HO3 := hid ho3
        have HB3 := hid hb3
        clear ho3 hg3 hb3 hx3 m0 m1 m2 m3
        go_wp2_with (at_builtin; refine wp_keep ?_)
        refine hid ?_
        have hst3 := (slice_rd_of w3 5 _ _ _ _ (HS.out.new HB3.out).1 i s.length hi (Nat.le_refl _)).1
        rw [pcs_drop, List.take_of_length_le (l := pcs (s.drop i)) (by rw [pcs_length, List.length_drop]; exact Nat.le_refl _), if_pos rfl, hm0, Nat.sub_self] at hst3
        refine wpList_append_rd rfl _ _ TL rfl w.heap.size TP _ 5 72 Try.underlying27 infoP rfl (by decide) _ (i + 1) (pcs (s.take i) ++ pc (v, t)) rfl HO3.out _ 0 (pcs (s.drop i)) rfl hst3 (pcs_one _) (by simp only [maxLen]; omega) (by omega) hsz3 ?_
        intro p4 c4 w4 ho4 hg4 _
        have hb4 : Below w.heap.size w w4 := HB3.out.grown hg4 hsz3 (fun k hk => (HO3.out.lt k hk).1)
        have HO4 := hid ho4
        have HB4 := hid hb4
        clear ho4 hg4 hb4 hst3
        go_wp2_with fail
        go_ret2
        rw [HSET.out]
        have hln : (s.take i ++ (v, t) :: s.drop i).length = i + 1 + 0 := by simp; omega
        refine ⟨p4, c4, ?_, ?_, HB4.out⟩
        · show Ending.returned (.tuple #[.slice p4 (i + 1 + 0) c4, .bool true]) = .returned (.tuple #[.slice p4 (s.take i ++ (v, t) :: s.drop i).length c4, .bool true])
          rw [hln]
        · show OwnP w.heap.size w4 (.slice p4 (s.take i ++ (v, t) :: s.drop i).length c4) (s.take i ++ (v, t) :: s.drop i)
          unfold OwnP
          rw [hln, pcs_append, pcs_cons, ← List.append_assoc]
          exact HO4.out
      · skip
        have hset : setP s v t = some (s.take i ++ (v, t) :: s.drop i) := by
          have h := hrk
          subst h
          exact setP_new (fun h => absurd h hil)
        have HSET := hid hset
        clear hset hrk
        have hic : (i : Int) ≤ (c : Int) := by have := hcap.1; omega
        go_wp2_with (at_builtin; refine wp_keep ?_)
        refine hid ?_
        have hse := HS0.out.new ((Below.refl wr.heap.size wr).alloc (Nat.le_refl _) (Obj.cells #[] TP))
        have hst := slice_rd_of _ 5 _ _ _ _ hse.1 0 i (Nat.zero_le _) hi
        have hrd1 : Rd (wr.alloc (Obj.cells #[] TP)) 5 (.slice p i c) i (pcs (s.take i)) := by
          have h := hst.1
          rw [Nat.zero_mul, List.drop_zero, pcs_take] at h
          simp only [Nat.sub_zero] at h
          have e : (if c = 0 then (p : Option Addr) else (p : Option Addr).map (·.add 0)) = p := by
            split
            · rfl
            · cases h0 : (p : Option Addr) <;> simp [Addr.add]
          rw [e] at h
          exact h
        refine wpList_append_rd rfl _ _ TL rfl w.heap.size TP _ 5 72 Try.underlying27 infoP rfl (by decide) _ 0 [] rfl (own_empty wr TP 5 _ (Nat.le_of_lt hlt)) _ i (pcs (s.take i)) rfl hrd1 (pcs_one _) (by simp only [maxLen]; omega) (by omega) (by simp; omega) ?_
        intro p2 c2 w2 ho2 hg2 _
        rw [Nat.zero_add] at ho2 ⊢
        rw [List.nil_append] at ho2
        have hb2 : Below w.heap.size w w2 := (HB.out.alloc (Nat.le_of_lt hlt) _).grown hg2 (by simp; omega) (by intro k hk; cases hk; exact Nat.le_of_lt hlt)
        have hz2 : Blk w2 w.heap.size [.int .i64 t.1, .string (B t.2.1), .string (B t.2.2.1), .string (B t.2.2.2)] TT := (Chg.grown hg2).heap ((Lib.alloc_old _ _ _ hlt).trans HZ.out) (by intro h; have h2 : wr.heap.size = w.heap.size := Option.some.inj h; omega)
        obtain ⟨m0, m1, m2, m3, _, _, _, _⟩ := blk4 hz2
        have hsz2 := hb2.size
        have HO2 := hid ho2
        have HB2 := hid hb2
        clear ho2 hg2 hb2 hz2 hse hst hrd1
        go_wp2_with (at_builtin; refine wp_keep ?_)
        refine hid ?_
        have hx3 : Blk (w2.alloc (Obj.cells (pc (v, t)).toArray TP)) w2.heap.size (pc (v, t)) TP := heap_alloc_new w2 _
        refine wpList_append_rd rfl _ _ TL rfl w.heap.size TP _ 5 72 Try.underlying27 infoP rfl (by decide) _ i (pcs (s.take i)) rfl (HO2.out.alloc _) _ 1 (pc (v, t)) rfl (rd_one hx3) (pc_one _) (by simp only [maxLen]; omega) (by omega) (by simp; omega) ?_
        intro p3 c3 w3 ho3 hg3 _
        have hb3 : Below w.heap.size w w3 := (HB2.out.alloc hsz2 _).grown hg3 (by simp; omega) (fun k hk => (HO2.out.lt k hk).1)
        have hsz3 := hb3.size
        have HO3 := hid ho3
        have HB3 := hid hb3
        clear ho3 hg3 hb3 hx3 m0 m1 m2 m3
        go_wp2_with (at_builtin; refine wp_keep ?_)
        refine hid ?_
        have hst3 := (slice_rd_of w3 5 _ _ _ _ (HS.out.new HB3.out).1 i s.length hi (Nat.le_refl _)).1
        rw [pcs_drop, List.take_of_length_le (l := pcs (s.drop i)) (by rw [pcs_length, List.length_drop]; exact Nat.le_refl _), if_neg hci, hm0] at hst3
        refine wpList_append_rd rfl _ _ TL rfl w.heap.size TP _ 5 72 Try.underlying27 infoP rfl (by decide) _ (i + 1) (pcs (s.take i) ++ pc (v, t)) rfl HO3.out _ 0 (pcs (s.drop i)) rfl hst3 (pcs_one _) (by simp only [maxLen]; omega) (by omega) hsz3 ?_
        intro p4 c4 w4 ho4 hg4 _
        have hb4 : Below w.heap.size w w4 := HB3.out.grown hg4 hsz3 (fun k hk => (HO3.out.lt k hk).1)
        have HO4 := hid ho4
        have HB4 := hid hb4
        clear ho4 hg4 hb4 hst3
        go_wp2_with fail
        go_ret2
        rw [HSET.out]
        have hln : (s.take i ++ (v, t) :: s.drop i).length = i + 1 + 0 := by simp; omega
        refine ⟨p4, c4, ?_, ?_, HB4.out⟩
        · show Ending.returned (.tuple #[.slice p4 (i + 1 + 0) c4, .bool true]) = .returned (.tuple #[.slice p4 (s.take i ++ (v, t) :: s.drop i).length c4, .bool true])
          rw [hln]
        · show OwnP w.heap.size w4 (.slice p4 (s.take i ++ (v, t) :: s.drop i).length c4) (s.take i ++ (v, t) :: s.drop i)
          unfold OwnP
          rw [hln, pcs_append, pcs_cons, ← List.append_assoc]
          exact HO4.out
end Go.Proofs.Ytkhdadbbgfjcgaa
