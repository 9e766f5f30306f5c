/- package code: numbers alone (for a seat that has no more of it). -/
import Derived.Test.YtdilkgcoecipjaaRows
import Derived.Test.YtdilkgcoecipjaaCodeRead
namespace Go.Proofs.Ytdilkgcoecipjaa
open Go.RowKit
set_option linter.unusedVariables false

theorem tkErr_bd {l : List UInt8} {e : Int} {n : Nat} (h0 : 0 ≤ e) (h1 : e ≤ 1000) : 0 ≤ tkErr l e n ∧ tkErr l e n ≤ 1000 := by
  unfold tkErr; split
  · exact ⟨h0, h1⟩
  · split <;> omega
theorem tkLeft_length (l : List UInt8) (e : Int) (n : Nat) : (tkLeft l e n).length ≤ l.length := by
  unfold tkLeft; split
  · simp
  · split <;> simp

theorem rInt_any (r : Nat) (ob : Option Nat) (l : List UInt8) (e : Int) (w : World) (hr : Rdr w r ob l e) (hl : l.length ≤ 1000000) (he0 : 0 ≤ e) (he1 : e ≤ 1000) :
    Calls Try.prog 54 #[.pointer (some ⟨r, 0, none⟩)] w fun en w' => en = .returned (.int .i64 (wrap64 (num (tkGot l e 8)))) ∧ Chg (fun k => k = r) w w' ∧
      Rdr w' r ob (tkLeft l e 8) (tkErr l e 8) := by
  have HN := number_any r ob l e 8 w hr hl (by omega) he0 he1
  generalize num (tkGot l e 8) = m at HN ⊢
  have HN := hid HN
  go_enter Try.func54, Try.ntmps54
  go_wp2_with (first | (go_at_call 69; refine HN.out.mono ?_; rintro en w1 ⟨rfl, hc⟩; have HC := hid hc; clear hc HN))
  go_ret
  exact ⟨rfl, HC.out⟩

theorem u64_bd (v : Int) : 0 ≤ IntKind.u64.wrap v ∧ IntKind.u64.wrap v < 2 ^ 64 := by
  have h : IntKind.u64.wrap v = v % 18446744073709551616 := by simp [IntKind.wrap, IntKind.bits, IntKind.signed]
  rw [h]; omega

/-- a new slice of just these bytes, and nothing else turned -/
def Made (w : World) (l : List UInt8) (e : Ending) (w' : World) : Prop :=
  ∃ p n c, e = .returned (.slice p n c) ∧ n = l.length ∧ Below w.heap.size w w' ∧ w'.ownsRow w.heap.size 5 1 (.slice p n c) n (bv l)

theorem own_shape {w : World} {b t s n : Nat} {v : Value} {xs : List Value} (h : w.ownsRow b t s v n xs) : ∃ p c, v = .slice p n c := by
  rcases h.2 with ⟨h5, h6⟩ | ⟨g, cap, cur, h5, _⟩
  · exact ⟨none, 0, by rw [h5, h6]⟩
  · exact ⟨_, _, h5⟩

theorem made_put {v : Value} {l : List UInt8} {n : Nat} {u : Int} {w : World} (hv : Bs w v l) (hl : l.length ≤ 1000000) (hn : n ≤ 8) (hu0 : 0 ≤ u) (hu1 : u < 2 ^ 64) :
    Calls Try.prog 79 #[v, .int .u64 u, .int .i64 n] w (Made w (l ++ le u n)) :=
  (put_any v l n u w hv hl hn hu0 hu1).mono fun e w' ⟨r, he, hb, ho⟩ => by
    obtain ⟨p, c, rfl⟩ := own_shape ho
    exact ⟨p, _, c, he, by simp, hb, ho⟩

theorem cInt_any (v : Value) (l : List UInt8) (u : Int) (w : World) (hv : Bs w v l) (hl : l.length ≤ 1000000) :
    Calls Try.prog 65 #[v, .int .i64 u] w (Made w (l ++ le (IntKind.u64.wrap u) 8)) := by
  have hu := u64_bd u
  have HP := hid (made_put (n := 8) hv hl (by omega) hu.1 hu.2)
  obtain ⟨_, p, cap, rfl, _⟩ := hv
  clear hu
  go_enter Try.func65, Try.ntmps65
  go_wp2_with (first | (go_at_call 79; refine HP.out.mono ?_; rintro en w1 ⟨p1, n1, c1, rfl, h⟩; have H := hid h; clear h))
  go_ret
  exact ⟨_, _, _, rfl, H.out⟩

/-- a text's bytes, cut -/
theorem New_any (v : Value) (l : List UInt8) (w : World) (hv : Bs w v l) (hl : l.length ≤ 1000000) :
    Calls Try.prog 53 #[v] w fun en w' => ∃ r, en = .returned (.pointer (some ⟨r, 0, none⟩)) ∧ Below w.heap.size w w' ∧ w.heap.size ≤ r ∧ ∃ ob, (∀ g, ob = some g → w.heap.size ≤ g ∧ g < w'.heap.size) ∧ Rdr w' r ob l 0 := by
  have HV := hid hv
  obtain ⟨_, p, cap, rfl, _⟩ := hv
  go_enter Try.func53, Try.ntmps53
  go_wp2_with (at_builtin; refine wpList_append_rd rfl _ _ 30 rfl w.heap.size 5 _ 1 1 Try.underlying30 infoU8 rfl (by decide) _ 0 [] rfl (World.ownsRow_nil _ _ _ _) _ _ _ rfl HV.out (bv_one _) (by simp only [maxLen]; omega) (by omega) (Nat.le_refl _) ?_; intro pp cc w1 hown1 hg1 hb1)
  go_ret
  have H1 := hown1
  simp only [Nat.zero_add, List.nil_append] at H1
  have hb2 : Below w.heap.size w w1 := (Below.refl _ _).grown hg1 (Nat.le_refl _) (by intro k hk; cases hk)
  refine ⟨_, rfl, hb2.alloc hb2.size _, hb2.size, _, fun g hg => ⟨(H1.lt g hg).1, by have := (H1.lt g hg).2; simp; omega⟩, _, heap_alloc_new _ _, ?_, rfl, ?_⟩
  · exact Rd.of_own (H1.alloc _)
  · intro hk
    have := (H1.lt _ hk).2
    omega
end Go.Proofs.Ytdilkgcoecipjaa
