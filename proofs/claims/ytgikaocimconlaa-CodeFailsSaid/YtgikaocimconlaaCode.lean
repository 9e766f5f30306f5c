/- package code: what is written, and what a reader answers. -/
import Derived.Test.YtgikaocimconlaaRows
import Derived.Test.YtgikaocimconlaaCodeRead
namespace Go.Proofs.Ytgikaocimconlaa
open Go.RowKit
set_option linter.unusedVariables false

theorem tkErr_bd {l : List UInt8} {e : Int} {n : Nat} (h0 : 0 ≤ e) (h1 : e ≤ 1000) : 0 ≤ tkErr l e n ∧ tkErr l e n ≤ 1000 := by
  unfold tkErr; split
  · exact ⟨h0, h1⟩
  · split <;> omega
theorem tkLeft_length (l : List UInt8) (e : Int) (n : Nat) : (tkLeft l e n).length ≤ l.length := by
  unfold tkLeft; split
  · simp
  · split <;> simp

theorem rByte_any (r : Nat) (ob : Option Nat) (l : List UInt8) (e : Int) (w : World) (hr : Rdr w r ob l e) (hl : l.length ≤ 1000000) (he0 : 0 ≤ e) (he1 : e ≤ 1000) :
    Calls Try.prog 22 #[.pointer (some ⟨r, 0, none⟩)] w fun en w' => en = .returned (.int .i64 (num (tkGot l e 1))) ∧ Chg (fun k => k = r) w w' ∧
      Rdr w' r ob (tkLeft l e 1) (tkErr l e 1) := by
  have HN := number_any r ob l e 1 w hr hl (by omega) he0 he1
  have hb : num (tkGot l e 1) < 256 := Nat.lt_of_lt_of_le (num_lt _) (by
    have := tkGot_length l e 1
    exact Nat.le_trans (Nat.pow_le_pow_right (by omega) this) (by omega))
  generalize num (tkGot l e 1) = m at HN hb ⊢
  have HN := hid HN
  go_enter Try.func22, Try.ntmps22
  go_wp2_with (first | (go_at_call 48; refine HN.out.mono ?_; rintro en w1 ⟨rfl, hc⟩; have HC := hid hc; clear hc HN))
  go_ret
  exact ⟨rfl, HC.out⟩

theorem rInt_any (r : Nat) (ob : Option Nat) (l : List UInt8) (e : Int) (w : World) (hr : Rdr w r ob l e) (hl : l.length ≤ 1000000) (he0 : 0 ≤ e) (he1 : e ≤ 1000) :
    Calls Try.prog 19 #[.pointer (some ⟨r, 0, none⟩)] w fun en w' => en = .returned (.int .i64 (wrap64 (num (tkGot l e 8)))) ∧ Chg (fun k => k = r) w w' ∧
      Rdr w' r ob (tkLeft l e 8) (tkErr l e 8) := by
  have HN := number_any r ob l e 8 w hr hl (by omega) he0 he1
  generalize num (tkGot l e 8) = m at HN ⊢
  have HN := hid HN
  go_enter Try.func19, Try.ntmps19
  go_wp2_with (first | (go_at_call 48; refine HN.out.mono ?_; rintro en w1 ⟨rfl, hc⟩; have HC := hid hc; clear hc HN))
  go_ret
  exact ⟨rfl, HC.out⟩

theorem rText_any (r : Nat) (ob : Option Nat) (l : List UInt8) (e : Int) (w : World) (hr : Rdr w r ob l e) (hl : l.length ≤ 1000000) (he0 : 0 ≤ e) (he1 : e ≤ 1000) :
    Calls Try.prog 17 #[.pointer (some ⟨r, 0, none⟩)] w fun en w' =>
      en = .returned (.string ⟨(tkGot (tkLeft l e 2) (tkErr l e 2) (num (tkGot l e 2))).toArray⟩) ∧ Chg (fun k => k = r) w w' ∧
      Rdr w' r ob (tkLeft (tkLeft l e 2) (tkErr l e 2) (num (tkGot l e 2))) (tkErr (tkLeft l e 2) (tkErr l e 2) (num (tkGot l e 2))) := by
  have HN := hid (number_any r ob l e 2 w hr hl (by omega) he0 he1)
  have hb : num (tkGot l e 2) < 65536 := Nat.lt_of_lt_of_le (num_lt _) (by
    have := tkGot_length l e 2
    exact Nat.le_trans (Nat.pow_le_pow_right (by omega) this) (by omega))
  have h1 := tkErr_bd (l := l) (n := 2) he0 he1
  have h2 := tkLeft_length l e 2
  have HT := hid (fun w1 h => take_any r ob (tkLeft l e 2) (tkErr l e 2) (num (tkGot l e 2)) w1 h (by omega) (by omega) h1.1 h1.2)
  generalize num (tkGot l e 2) = m at HN hb HT ⊢
  generalize tkGot (tkLeft l e 2) (tkErr l e 2) m = g at HT ⊢
  generalize tkLeft (tkLeft l e 2) (tkErr l e 2) m = l3 at HT ⊢
  generalize tkErr (tkLeft l e 2) (tkErr l e 2) m = e3 at HT ⊢
  clear h1 h2
  go_enter Try.func17, Try.ntmps17
  go_wp2_with (first
    | (go_at_call 48; refine HN.out.mono ?_; rintro en w1 ⟨rfl, hc⟩; have HC := hid hc; clear hc HN)
    | (go_at_call 47; refine (HT.out _ HC.out.2).mono ?_; rintro en w2 ⟨p, rfl, hc, hr2, hp, _⟩; have HC2 := hid hc; have HR2 := hid hr2; have HP := hid hp; clear hc hr2 hp HT)
    | (refine wpList_bytes_str rfl 24 9 _ rfl 5 Try.underlying24 Try.underlying5 Try.underlying9 _ _ rfl HP.out ?_))
  go_ret
  exact ⟨rfl, HC.out.1.trans HC2.out (fun _ _ h => h), HR2.out⟩

/-- the error behind a Fail -/
def flErr (e f : Int) : Int := if e = 0 then f else e
theorem rFail_any (r : Nat) (ob : Option Nat) (l : List UInt8) (e f : Int) (w : World) (hr : Rdr w r ob l e) :
    Calls Try.prog 27 #[.pointer (some ⟨r, 0, none⟩), .int .i64 f] w fun en w' => en = .returned (.tuple #[]) ∧ Chg (fun k => k = r) w w' ∧ Rdr w' r ob l (flErr e f) := by
  obtain ⟨v, hblk, hv, rfl, hne⟩ := hr
  obtain ⟨c0, c1, f0, f1⟩ := two_cells hblk
  have HV := hid hv
  have HB := hid hblk
  have HN := hid hne
  clear hv hblk hne
  by_cases he : e = 0
  · subst he
    go_enter Try.func27, Try.ntmps27
    go_wp2
    go_end0
    have hc : Chg (fun k => k = r) w (w.setCell ⟨r, 1, none⟩ (.int .i64 f)) := Chg.setCell (fp := fun k => k = r) _ rfl _
    exact ⟨rfl, hc, ⟨_, two_set1 HB.out, Rd.chg HV.out hc (ownBlock_chg HN.out), rfl, HN.out⟩⟩
  · have he' : (e == 0) = false := by simpa using he
    go_enter Try.func27, Try.ntmps27
    go_wp2
    go_end0
    have h2 : flErr e f = e := by simp [flErr, he]
    rw [h2]
    exact ⟨rfl, Chg.refl _ _, ⟨_, HB.out, HV.out, rfl, HN.out⟩⟩

/-- what End answers -/
def endErr (l : List UInt8) (e : Int) : Int := if e = 0 ∧ 0 < l.length then 8 else e
theorem rEnd_any (r : Nat) (ob : Option Nat) (l : List UInt8) (e : Int) (w : World) (hr : Rdr w r ob l e) (hl : l.length ≤ 1000000) :
    Calls Try.prog 18 #[.pointer (some ⟨r, 0, none⟩)] w fun en w' => en = .returned (.int .i64 (endErr l e)) ∧ w = w' := by
  obtain ⟨v, hblk, hv, rfl, hne⟩ := hr
  obtain ⟨c0, c1, f0, f1⟩ := two_cells hblk
  obtain ⟨_, p, cap, rfl, _⟩ := hv
  clear hblk hne
  by_cases he : e = 0
  · subst he
    by_cases hp : 0 < l.length
    · have h2 : endErr l 0 = 8 := by simp [endErr]; intro h; simp [h] at hp
      rw [h2]
      go_enter Try.func18, Try.ntmps18
      go_wp2
      go_ret
      exact ⟨rfl, rfl⟩
    · have h0 : l.length = 0 := by omega
      have h2 : endErr l 0 = 0 := by simp [endErr, List.eq_nil_of_length_eq_zero h0]
      rw [h2]
      go_enter Try.func18, Try.ntmps18
      go_wp2
      go_ret
      exact ⟨rfl, rfl⟩
  · have he' : (e == 0) = false := by simpa using he
    have h2 : endErr l e = e := by simp [endErr, he]
    rw [h2]
    go_enter Try.func18, Try.ntmps18
    go_wp2
    go_ret
    exact ⟨rfl, rfl⟩

theorem u64_bd (v : Int) : 0 ≤ IntKind.u64.wrap v ∧ IntKind.u64.wrap v < 2 ^ 64 := by
  have h : IntKind.u64.wrap v = v % 18446744073709551616 := by simp [IntKind.wrap, IntKind.bits, IntKind.signed]
  rw [h]; omega

/-- a new slice of just these bytes, and nothing else turned -/
def Made (w : World) (l : List UInt8) (e : Ending) (w' : World) : Prop :=
  ∃ p n c, e = .returned (.slice p n c) ∧ n = l.length ∧ Below w.heap.size w w' ∧ w'.ownsRow w.heap.size 5 1 (.slice p n c) n (bv l)

theorem own_shape {w : World} {b t s n : Nat} {v : Value} {xs : List Value} (h : w.ownsRow b t s v n xs) : ∃ p c, v = .slice p n c := by
  rcases h.2 with ⟨h5, h6⟩ | ⟨g, cap, cur, h5, _⟩
  · exact ⟨none, 0, by rw [h5, h6]⟩
  · exact ⟨_, _, h5⟩

theorem made_put {v : Value} {l : List UInt8} {n : Nat} {u : Int} {w : World} (hv : Bs w v l) (hl : l.length ≤ 1000000) (hn : n ≤ 8) (hu0 : 0 ≤ u) (hu1 : u < 2 ^ 64) :
    Calls Try.prog 46 #[v, .int .u64 u, .int .i64 n] w (Made w (l ++ le u n)) :=
  (put_any v l n u w hv hl hn hu0 hu1).mono fun e w' ⟨r, he, hb, ho⟩ => by
    obtain ⟨p, c, rfl⟩ := own_shape ho
    exact ⟨p, _, c, he, by simp, hb, ho⟩

theorem cByte_any (v : Value) (l : List UInt8) (u : Int) (w : World) (hv : Bs w v l) (hl : l.length ≤ 1000000) :
    Calls Try.prog 20 #[v, .int .i64 u] w (Made w (l ++ le (IntKind.u64.wrap u) 1)) := by
  have hu := u64_bd u
  have HP := hid (made_put (n := 1) hv hl (by omega) hu.1 hu.2)
  obtain ⟨_, p, cap, rfl, _⟩ := hv
  clear hu
  go_enter Try.func20, Try.ntmps20
  go_wp2_with (first | (go_at_call 46; refine HP.out.mono ?_; rintro en w1 ⟨p1, n1, c1, rfl, h⟩; have H := hid h; clear h))
  go_ret
  exact ⟨_, _, _, rfl, H.out⟩

theorem cInt_any (v : Value) (l : List UInt8) (u : Int) (w : World) (hv : Bs w v l) (hl : l.length ≤ 1000000) :
    Calls Try.prog 21 #[v, .int .i64 u] w (Made w (l ++ le (IntKind.u64.wrap u) 8)) := by
  have hu := u64_bd u
  have HP := hid (made_put (n := 8) hv hl (by omega) hu.1 hu.2)
  obtain ⟨_, p, cap, rfl, _⟩ := hv
  clear hu
  go_enter Try.func21, Try.ntmps21
  go_wp2_with (first | (go_at_call 46; refine HP.out.mono ?_; rintro en w1 ⟨p1, n1, c1, rfl, h⟩; have H := hid h; clear h))
  go_ret
  exact ⟨_, _, _, rfl, H.out⟩

/-- a text's bytes, cut -/
def cutText (s : List UInt8) : List UInt8 := s.take 65535

set_option maxRecDepth 1000000 in
theorem cText_any (v : Value) (l : List UInt8) (s : ByteArray) (w : World) (hv : Bs w v l) (hl : l.length ≤ 900000) (hs : s.size ≤ 140737488351232) :
    Calls Try.prog 15 #[v, .string s] w (Made w (l ++ le ((cutText s.data.toList).length : Nat) 2 ++ cutText s.data.toList)) := by
  by_cases hsz : s.size ≤ 65535
  · have e1 : cutText s.data.toList = s.data.toList := by unfold cutText; exact List.take_of_length_le (by simpa using hsz)
    have e2 : s.data.toList.length = s.size := by simp
    have HP := hid (made_put (n := 2) (u := (s.size : Int)) hv (by omega) (by omega) (by omega) (by omega))
    have HE := hid e1
    have HE2 := hid e2
    clear e1 e2
    have hi : ¬ ((65535 : Int) < (s.size : Int)) := by omega
    obtain ⟨_, p, cap, rfl, _⟩ := hv
    go_enter Try.func15, Try.ntmps15
    go_wp2_with (first
      | (go_at_call 46; refine HP.out.mono ?_; rintro en w1 ⟨p1, n1, c1, rfl, hn, hb, ho⟩; have HN := hid hn; have HB := hid hb; have HO := hid ho; have hsz1 := hb.size; clear hn hb ho HP)
      | (at_builtin; refine wpList_append_str rfl _ _ 24 9 rfl w.heap.size 5 Try.underlying24 Try.underlying9 infoU8 _ _ _ rfl HO.out _ rfl (by rw [HN.out]; simp; omega) hsz1 ?_; intro p2 c2 w2 h2 hg2; have H2 := hid h2; have HG2 := hid hg2; clear h2 hg2))
    go_ret
    refine ⟨_, _, _, rfl, ?_, HB.out.grown HG2.out hsz1 (fun k hk => (HO.out.lt k hk).1), ?_⟩
    · rw [HN.out, HE.out]; simp; omega
    · rw [HE.out, HE2.out, bv_append]; exact H2.out
  · have hcl : (cutText s.data.toList).length = min 65535 s.size := by simp [cutText]
    have hi : ((65535 : Int) < (s.size : Int)) := by omega
    have hi2 : 65535 ≤ s.size := by omega
    have hx : (s.extract 0 65535).size = 65535 := by simp; omega
    have hd : (s.extract 0 65535).data.toList = cutText s.data.toList := by
      unfold cutText; simp [ByteArray.data_extract, Array.toList_extract, List.extract_eq_take_drop]
    have e2 : (cutText s.data.toList).length = 65535 := by rw [hcl]; omega
    have HP := hid (made_put (n := 2) (u := (65535 : Int)) hv (by omega) (by omega) (by omega) (by omega))
    have HX := hid hx
    have HD := hid hd
    have HE2 := hid e2
    clear hx hd e2 hcl
    obtain ⟨_, p, cap, rfl, _⟩ := hv
    go_enter Try.func15, Try.ntmps15
    go_wp2_with (first
      | (go_at_call 46; refine HP.out.mono ?_; rintro en w1 ⟨p1, n1, c1, rfl, hn, hb, ho⟩; have HN := hid hn; have HB := hid hb; have HO := hid ho; have hsz1 := hb.size; clear hn hb ho HP)
      | (at_builtin; refine wpList_append_str rfl _ _ 24 9 rfl w.heap.size 5 Try.underlying24 Try.underlying9 infoU8 _ _ _ rfl HO.out _ rfl (by rw [HN.out, HX.out]; simp; omega) hsz1 ?_; intro p2 c2 w2 h2 hg2; have H2 := hid h2; have HG2 := hid hg2; clear h2 hg2))
    go_ret
    refine ⟨_, _, _, rfl, ?_, HB.out.grown HG2.out hsz1 (fun k hk => (HO.out.lt k hk).1), ?_⟩
    · rw [HN.out]; simp [HE2.out]
    · have h3 := H2.out
      rw [HD.out, ← bv_append] at h3
      rw [HE2.out]; simpa [HX.out] using h3

theorem New_any (v : Value) (l : List UInt8) (w : World) (hv : Bs w v l) (hl : l.length ≤ 1000000) :
    Calls Try.prog 16 #[v] w fun en w' => ∃ r, en = .returned (.pointer (some ⟨r, 0, none⟩)) ∧ Below w.heap.size w w' ∧ w.heap.size ≤ r ∧ ∃ ob, (∀ g, ob = some g → w.heap.size ≤ g ∧ g < w'.heap.size) ∧ Rdr w' r ob l 0 := by
  have HV := hid hv
  obtain ⟨_, p, cap, rfl, _⟩ := hv
  go_enter Try.func16, Try.ntmps16
  go_wp2_with (at_builtin; refine wpList_append_rd rfl _ _ 24 rfl w.heap.size 5 _ 1 1 Try.underlying24 infoU8 rfl (by decide) _ 0 [] rfl (World.ownsRow_nil _ _ _ _) _ _ _ rfl HV.out (bv_one _) (by simp only [maxLen]; omega) (by omega) (Nat.le_refl _) ?_; intro pp cc w1 hown1 hg1 hb1)
  go_ret
  have H1 := hown1
  simp only [Nat.zero_add, List.nil_append] at H1
  have hb2 : Below w.heap.size w w1 := (Below.refl _ _).grown hg1 (Nat.le_refl _) (by intro k hk; cases hk)
  refine ⟨_, rfl, hb2.alloc hb2.size _, hb2.size, _, fun g hg => ⟨(H1.lt g hg).1, by have := (H1.lt g hg).2; simp; omega⟩, _, heap_alloc_new _ _, ?_, rfl, ?_⟩
  · exact Rd.of_own (H1.alloc _)
  · intro hk
    have := (H1.lt _ hk).2
    omega
end Go.Proofs.Ytgikaocimconlaa
