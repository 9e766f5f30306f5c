/- redo.check: what is wrong with pages. -/
import Derived.Test.YtiphekepglihlaaSteps
import Derived.Maps.OwnOps
import Derived.Maps.Views
import Derived.Maps.OwnSet
namespace Go.Proofs.Ytiphekepglihlaa
open Go.RowKit Go.Maps
set_option linter.unusedVariables false

/-- may this page be written, behind those? -/
def okAt (n : Nat) (before : List (Int × List UInt8)) (q : Int × List UInt8) : Bool :=
  decide (401 ≤ q.1 ∧ q.1 < (n : Int)) && !(before.any fun p => p.1 == q.1) && decide (q.2.length ≤ 504)
def scanPuts (n : Nat) : List (Int × List UInt8) → List (Int × List UInt8) → Int
  | _, [] => 0
  | before, q :: r => if okAt n before q then scanPuts n (before ++ [q]) r else 1
def chk (n : Nat) (ls : List (Int × List UInt8)) : Int :=
  if ls.length = 0 then 1 else if 400 < ls.length then 4 else scanPuts n [] ls

theorem scanPuts_step {n j : Nat} {ls : List (Int × List UInt8)} {q : Int × List UInt8} (hq : ls[j]? = some q) :
    scanPuts n (ls.take j) (ls.drop j) = if okAt n (ls.take j) q then scanPuts n (ls.take (j + 1)) (ls.drop (j + 1)) else 1 := by
  obtain ⟨hlt, he⟩ := List.getElem?_eq_some_iff.1 hq
  rw [List.drop_eq_getElem_cons hlt, he, scanPuts, List.take_add_one, hq]
  rfl

/-- a map that counts the places of pages, each there once -/
def Seen (D : DataW Unit) (before : List (Int × List UInt8)) : Prop :=
  ∀ a : Int, (Lit.int .i64 a).wf = true → D.atKey (.int .i64 a) (.lit (.int .i64 0)) = .lit (.int .i64 (if before.any (fun p => p.1 == a) then 1 else 0))

theorem mapKeyed : Keyed Try.prog 3 := int_keyed Try.underlying3
theorem mapZero (w : World) : (zeroValue 3).run Try.prog w = .ok (.int .i64 0) w := by kernel_rfl

theorem Seen.nil : Seen (.map []) [] := fun a _ => rfl
theorem Seen.count {D : DataW Unit} {before : List (Int × List UInt8)} (h : Seen D before) {a c : Int} (hw : (Lit.int .i64 a).wf = true) (hat : D.atKey (.int .i64 a) (.lit (.int .i64 0)) = .lit (.int .i64 c)) :
    c = if before.any (fun p => p.1 == a) then 1 else 0 := by
  have h1 := h a hw
  rw [hat] at h1
  injection h1 with h1
  injection h1
theorem put_count {D : DataW Unit} (hD : IsMap D) {a c m : Int} (hat : (D.put (.int .i64 a) (.lit (.int .i64 m))).atKey (.int .i64 a) (.lit (.int .i64 0)) = .lit (.int .i64 c)) : c = m := by
  rw [atKey_put_same hD (by simp [WideAt.IsKeyLit])] at hat
  injection hat with h1
  injection h1 with _ h2
  exact h2.symm
theorem Seen.put {D : DataW Unit} {before : List (Int × List UInt8)} (h : Seen D before) (hD : IsMap D) {q : Int × List UInt8} (hq : before.any (fun p => p.1 == q.1) = false) : Seen (D.put (.int .i64 q.1) (.lit (.int .i64 1))) (before ++ [q]) := fun a ha => by
  by_cases hc : a = q.1
  · subst hc
    rw [atKey_put_same hD (by simp [WideAt.IsKeyLit])]
    simp
  · rw [atKey_put_other (by intro h2; injection h2 with _ h3; exact hc h3), h a ha, List.any_append]
    have h2 : ([q].any fun p => p.1 == a) = false := by simp; exact fun h2 => hc h2.symm
    rw [h2, Bool.or_false]

set_option maxRecDepth 100000 in
set_option maxHeartbeats 4000000 in
theorem check_any (w : World) (d : Nat) (fp : Nat → Prop) (n : Nat) (s : DS) (a : Option Addr) (c : Nat) (ls : List (Int × List UInt8)) (h : Dsk w d fp n s) (hp : IsPuts w fp a ls) (hl : ls.length ≤ 1000) (hb : ∀ q ∈ ls, q.2.length ≤ 1000)
    (hw : ∀ q ∈ ls, (Lit.int .i64 q.1).wf = true) :
    Calls Try.prog 77 #[.pointer (some ⟨d, 0, none⟩), .slice a ls.length c] w fun e w' => e = .returned (.int .i64 (chk n ls)) ∧ Below w.heap.size w w' := by
  have H := hid h
  have HP := hid hp
  have HB := hid hb
  have HW := hid hw
  have hmm := @run_makeMap Try.prog
  clear h hp hb hw
  by_cases h0 : ls.length = 0
  · have he : chk n ls = 1 := if_pos h0
    rw [he]
    go_enter Try.func77, Try.ntmps77
    go_wp2_with fail
    go_ret
    exact ⟨rfl, Below.refl _ _⟩
  · by_cases h4 : 400 < ls.length
    · have he : chk n ls = 4 := by unfold chk; rw [if_neg h0, if_pos h4]
      have h0' : ((ls.length : Int) == 0) = false := by simpa using h0
      have h4' : decide ((400 : Int) < (ls.length : Int)) = true := by simp; omega
      rw [he]
      clear h0
      go_enter Try.func77, Try.ntmps77
      go_wp2_with fail
      go_ret
      exact ⟨rfl, Below.refl _ _⟩
    · have he : Hid (chk n ls = scanPuts n [] ls) := hid (by unfold chk; rw [if_neg h0, if_neg h4])
      have h0' : ((ls.length : Int) == 0) = false := by simpa using h0
      have h4' : decide ((400 : Int) < (ls.length : Int)) = false := by simp; omega
      rw [he.out]
      clear h0 h4
      go_enter Try.func77, Try.ntmps77
      go_wp2_with fail
      have F0 : Hid ((w.alloc (Obj.map #[] 0)).ownsMap Try.prog 3 (plainElem (H := Unit) Try.prog 3) w.heap.size 0 (.map [])) := hid (World.ownsMap_made _ _ _ _)
      have B0 : Hid (Below w.heap.size w (w.alloc (Obj.map #[] 0))) := hid ((Below.refl _ _).alloc (Nat.le_refl _) _)
      go_loopw [19] (fun i wr => ∃ (j : Nat) (D : DataW Unit), j ≤ ls.length ∧ i = .int .i64 j ∧ wr.ownsMap Try.prog 3 (plainElem (H := Unit) Try.prog 3) w.heap.size j D ∧ Seen D (ls.take j) ∧ Below w.heap.size w wr ∧ scanPuts n [] ls = scanPuts n (ls.take j) (ls.drop j)) (fun i _ => ls.length + 1 - (intOf i).toNat)
      case atStart => exact ⟨0, _, Nat.zero_le _, rfl, F0.out, Seen.nil, B0.out, rfl⟩
      case round =>
        obtain ⟨j, D, hj, rfl, hown, hseen, hbel, hsc⟩ := hrel
        have OW := hid hown
        have SE := hid hseen
        have BE := hid hbel
        have SC := hid hsc
        clear hown hseen hbel hsc F0 B0
        by_cases hlt : j < ls.length
        · obtain ⟨ab, ao, q, p, pc, rfl, hq, k0, k1, hfar⟩ := HP.out j hlt
          have hab : ab < w.heap.size := World.block_lt_of_cell? w ⟨ab, ao + j * 2, none⟩ k0
          have k0' : wr.cell? ⟨ab, ao + j * 2, none⟩ = some (.int .i64 q.1) := (BE.out.cell (p := ⟨ab, ao + j * 2, none⟩) hab).trans k0
          have k1' : wr.cell? ⟨ab, ao + j * 2 + 1, none⟩ = some (.slice p q.2.length pc) := (BE.out.cell (p := ⟨ab, ao + j * 2 + 1, none⟩) hab).trans k1
          have SC1 := hid (SC.out.trans (scanPuts_step hq))
          have HQ := hid hq
          have hqm := List.mem_of_getElem? hq
          have WF := hid (HW.out q hqm)
          have HKEY : Hid (keyOf Try.prog 3 (.int .i64 q.1) = some (.int .i64 q.1)) := hid (keyOf_int_mk Try.underlying3 WF.out)
          have hqb := HB.out q hqm
          have IM := hid OW.out.isMap
          have DA := hid (H.out.chg (Chg.new BE.out NoFp) (fun _ _ h => h))
          clear hq hqm k0 k1 hab SC hfar
          generalize hany : (ls.take j).any (fun p => p.1 == q.1) = seen at *
          have HANY := hid hany
          have hba : Below wr.heap.size wr (wr.alloc (Obj.cells #[.int .i64 q.1, .slice p q.2.length pc] 105)) := (Below.refl _ _).alloc (Nat.le_refl _) _
          have BA := hid hba
          have hwl : w.heap.size < wr.heap.size := by
            obtain ⟨es, ck, h9, _⟩ := OW.out
            exact (Array.getElem?_eq_some_iff.1 h9).1
          have CUT : Hid (∀ w1, (wr.alloc (Obj.cells #[.int .i64 q.1, .slice p q.2.length pc] 105)).grownBy w1 (some w.heap.size) → w1.cell? ⟨wr.heap.size, 0, none⟩ = some (.int .i64 q.1) ∧ w1.cell? ⟨wr.heap.size, 1, none⟩ = some (.slice p q.2.length pc) ∧ Below w.heap.size w w1) := hid (fun w1 hg => by
            have b0 : Blk (wr.alloc (Obj.cells #[.int .i64 q.1, .slice p q.2.length pc] 105)) wr.heap.size [.int .i64 q.1, .slice p q.2.length pc] 105 := heap_alloc_new wr _
            have b1 := b0.chg (Chg.grown hg) (fun h => by injection h with h; omega)
            exact ⟨b1.cell 0, b1.cell 1, (BE.out.alloc BE.out.size _).grown hg (Nat.le_trans BE.out.size BA.out.size) (fun k hk => by injection hk with hk; omega)⟩)
          clear hba hany
          cases seen with
          | false =>
            go_wp2_with (first
              | (at_lookup; refine wpList_lookup_own_int _ rfl _ _ 127 rfl 3 3 .i64 mapKeyed Try.underlying127 Try.underlying3 (mapZero _) w.heap.size j _ rfl (OW.out.alloc _) _ _ rfl HKEY.out ?_; intro c hat hwc; (have hc := SE.out.count WF.out hat); rw [HANY.out] at hc; simp at hc; subst hc; clear hat hwc)
              | (at_mapUpdate; refine wpList_mapUpdate_own _ rfl _ _ _ 127 rfl 3 3 mapKeyed Try.underlying127 _ w.heap.size j _ rfl (OW.out.alloc _) (by unfold maxLen; omega) _ _ _ rfl rfl HKEY.out _ [] (plainElem_int Try.underlying3 (by decide)) ?_; intro w1 hown1 hgrow1; (have OW1 := hid hown1); obtain ⟨m0, m1, m2⟩ := CUT.out w1 hgrow1; (have B1 := hid m2); clear hown1 hgrow1 m2))
            refine (home_any w1 d fp n s q.1 (H.out.chg (Chg.new B1.out NoFp) (fun _ _ h => h))).mono ?_
            rintro e1 wx ⟨rfl, hwx⟩
            subst hwx
            generalize hd : decide (401 ≤ q.1 ∧ q.1 < (n : Int)) = hm
            have HD := hid hd
            clear hd
            cases hm with
            | false =>
              have hbad : Hid (scanPuts n [] ls = 1) := hid (by rw [SC1.out, okAt, HD.out]; simp)
              go_wp2_with fail
              go_ret
              rw [hbad.out]
              exact ⟨rfl, B1.out⟩
            | true =>
              by_cases hlong : q.2.length ≤ 504
              · have hd5 : decide ((504 : Int) < (q.2.length : Int)) = false := by simp; omega
                have hok : Hid (scanPuts n [] ls = scanPuts n (ls.take (j + 1)) (ls.drop (j + 1))) := hid (by rw [SC1.out, okAt, HD.out, HANY.out]; simp [hlong])
                have SEN : Hid (Seen (D.put (.int .i64 q.1) (.lit (.int .i64 1))) (ls.take (j + 1))) := hid (by rw [List.take_add_one, HQ.out]; exact SE.out.put IM.out HANY.out)
                obtain ⟨c2, hrun, hat, _⟩ := OW1.out.lookup_int mapKeyed Try.underlying127 Try.underlying3 (mapZero _) HKEY.out
                have hc := put_count IM.out hat
                subst hc
                clear hat
                go_wp2_with fail
                go_roundw
                case rel => exact ⟨j + 1, _, by omega, by go_num, OW1.out, SEN.out, B1.out, hok.out⟩
                case measure => simp [intOf]; omega
              · have hd5 : decide ((504 : Int) < (q.2.length : Int)) = true := by simp; omega
                have hbad : Hid (scanPuts n [] ls = 1) := hid (by rw [SC1.out, okAt, HD.out, HANY.out]; simp [hlong])
                obtain ⟨c2, hrun, hat, _⟩ := OW1.out.lookup_int mapKeyed Try.underlying127 Try.underlying3 (mapZero _) HKEY.out
                have hc := put_count IM.out hat
                subst hc
                clear hat
                go_wp2_with fail
                go_ret
                rw [hbad.out]
                exact ⟨rfl, B1.out⟩
          | true =>
            have hbad : Hid (scanPuts n [] ls = 1) := hid (by rw [SC1.out, okAt, HANY.out]; simp)
            go_wp2_with (first
              | (at_lookup; refine wpList_lookup_own_int _ rfl _ _ 127 rfl 3 3 .i64 mapKeyed Try.underlying127 Try.underlying3 (mapZero _) w.heap.size j _ rfl (OW.out.alloc _) _ _ rfl HKEY.out ?_; intro c hat hwc; (have hc := SE.out.count WF.out hat); rw [HANY.out] at hc; simp at hc; subst hc; clear hat hwc)
              | (at_mapUpdate; refine wpList_mapUpdate_own _ rfl _ _ _ 127 rfl 3 3 mapKeyed Try.underlying127 _ w.heap.size j _ rfl (OW.out.alloc _) (by unfold maxLen; omega) _ _ _ rfl rfl HKEY.out _ [] (plainElem_int Try.underlying3 (by decide)) ?_; intro w1 hown1 hgrow1; (have OW1 := hid hown1); obtain ⟨m0, m1, m2⟩ := CUT.out w1 hgrow1; (have B1 := hid m2); clear hown1 hgrow1 m2))
            refine (home_any w1 d fp n s q.1 (H.out.chg (Chg.new B1.out NoFp) (fun _ _ h => h))).mono ?_
            rintro e1 wx ⟨rfl, hwx⟩
            subst hwx
            generalize hd : decide (401 ≤ q.1 ∧ q.1 < (n : Int)) = hm
            clear hd
            cases hm with
            | false =>
              go_wp2_with fail
              go_ret
              rw [hbad.out]
              exact ⟨rfl, B1.out⟩
            | true =>
              obtain ⟨c2, hrun, hat, _⟩ := OW1.out.lookup_int mapKeyed Try.underlying127 Try.underlying3 (mapZero _) HKEY.out
              have hc := put_count IM.out hat
              subst hc
              clear hat
              go_wp2_with fail
              go_ret
              rw [hbad.out]
              exact ⟨rfl, B1.out⟩
        · obtain rfl : j = ls.length := by omega
          have he : Hid (scanPuts n [] ls = 0) := hid (by rw [SC.out, List.drop_of_length_le (Nat.le_refl _)]; rfl)
          go_wp2_with fail
          go_ret
          rw [he.out]
          exact ⟨rfl, BE.out⟩

end Go.Proofs.Ytiphekepglihlaa
