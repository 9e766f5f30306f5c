/- triadlaw3: homes, same: rows of texts. triadlaw3.same: two rows of texts. -/
import Derived.Test.YtplahohlmiphoaaPureLog
namespace Go.Proofs.Ytplahohlmiphoaa
open Go.RowKit
set_option linter.unusedVariables false

def sv (l : List UInt8) : Value := .string ⟨l.toArray⟩
theorem strInfo : (Try.prog.info? 9).map (fun i => (i.zero, i.size, i.bytes)) = some (some (.string ⟨#[]⟩), 1, 16) := by kernel_rfl
def homesL (n : Nat) (F : List UInt8) : List (List UInt8) := (List.range (n - 401)).map fun i => row F (401 + i)
theorem homesL_length (n : Nat) (F : List UInt8) : (homesL n F).length = n - 401 := by simp [homesL]
theorem homesL_take {n j : Nat} {F : List UInt8} (h : j < n - 401) : (homesL n F).take (j + 1) = (homesL n F).take j ++ [row F (401 + j)] := by
  have e : (homesL n F)[j]? = some (row F (401 + j)) := by
    unfold homesL
    rw [List.getElem?_map, List.getElem?_range h]
    rfl
  rw [List.take_add_one, e]
  rfl

set_option maxRecDepth 100000 in
set_option maxHeartbeats 2000000 in
theorem homes3_any (w : World) (d : Nat) (fp : Nat → Prop) (n : Nat) (s : DS) (h : Dsk w d fp n s) (hd : s.dead = false) :
    Calls Try.prog 30 #[.pointer (some ⟨d, 0, none⟩)] w fun e w' => ∃ v, e = .returned v ∧ w'.ownsRow w.heap.size 9 1 v (n - 401) ((homesL n s.now).map sv) ∧ Below w.heap.size w w' := by
  have H := hid h
  have HDD := hid hd
  have hn := h.ok.n2
  clear h hd
  go_enter Try.func30, Try.ntmps30
  go_wp2_with fail
  go_loopw [3, 4] (fun v i wr => ∃ j : Nat, j ≤ n - 401 ∧ i = .int .i64 (401 + (j : Int)) ∧ wr.ownsRow w.heap.size 9 1 v j (((homesL n s.now).take j).map sv) ∧ Below w.heap.size w wr) (fun _ i _ => n + 500 - (intOf i).toNat)
  case atStart => exact ⟨0, Nat.zero_le _, rfl, World.ownsRow_nil _ _ _ _, Below.refl _ _⟩
  case round =>
    obtain ⟨j, hj, rfl, ho, hb⟩ := hrel
    have OW := hid ho
    have BW := hid hb
    have HD := hid (H.out.chg (Chg.new hb NoFp) (fun _ _ h => h))
    obtain ⟨p, c, rfl⟩ := own_shape ho
    clear ho hb
    go_wp2_with fail
    refine (dSize_any wr d fp n s HD.out).mono ?_
    rintro e1 wx ⟨rfl, hw⟩
    subst hw
    by_cases hlt : j < n - 401
    · have hd1 : decide (401 + (j : Int) < (n : Int)) = true := by simp; omega
      go_wp2_with fail
      have hrd := dRead_ok wr d fp n s (401 + j) HD.out HDD.out (by omega)
      rw [show (((401 + j : Nat) : Int)) = 401 + (j : Int) by omega] at hrd
      refine hrd.mono ?_
      rintro e1 w2 ⟨g, rfl, hg, hblk, hb2⟩
      have hrl := row_length H.out.ok.now (show 401 + j < n by omega)
      have R2 := hid (Bs.blk hblk hrl.symm (by simp [maxLen]))
      have O2 := hid (own_chg OW.out (Chg.new hb2 NoFp) (fun _ _ h => h))
      have B2 := hid (BW.out.trans (hb2.mono BW.out.size))
      have HT := hid (homesL_take (F := s.now) hlt)
      clear hrd hg hblk hb2 hrl OW
      go_wp2_with (first
        | (refine wpList_bytes_str rfl 26 9 _ rfl 5 Try.underlying26 Try.underlying5 Try.underlying9 _ (row s.now (401 + j)) rfl R2.out ?_)
        | (at_builtin; refine wp_keep ?_))
      refine hid ?_
      refine wpList_append_rd rfl _ _ 57 rfl w.heap.size 9 _ 1 16 Try.underlying57 strInfo rfl (by decide) _ j _ rfl (O2.out.alloc _) _ 1 [sv (row s.now (401 + j))] rfl (Rd.fresh1 _ _ _) (fun u hu => by rw [List.mem_singleton] at hu; subst hu; rfl) (by simp only [maxLen]; omega) (by omega) (Nat.le_trans B2.out.size (by simp)) ?_
      intro pp cc w7 hown7 hg7 hb7
      have O7 : Hid (w7.ownsRow w.heap.size 9 1 (.slice pp (j + 1) cc) (j + 1) (((homesL n s.now).take (j + 1)).map sv)) := hid (by rw [HT.out, List.map_append]; exact hown7)
      have B7 := hid ((B2.out.alloc B2.out.size (.cells #[sv (row s.now (401 + j))] 9)).grown hg7 (Nat.le_trans B2.out.size (by simp)) (fun k hk => (O2.out.lt k hk).1))
      clear hown7 hg7 hb7
      have hwj : IntKind.i64.wrap (401 + (j : Int) + 1) = 401 + (j : Int) + 1 := by simp [IntKind.wrap, IntKind.bits, IntKind.signed]; omega
      go_wp2_with fail
      go_roundw
      case rel => exact ⟨j + 1, by omega, by go_num, O7.out, B7.out⟩
      case measure => simp [intOf]; omega
    · have hd1 : decide (401 + (j : Int) < (n : Int)) = false := by simp; omega
      obtain rfl : j = n - 401 := by omega
      go_wp2_with fail
      go_ret
      refine ⟨_, rfl, ?_, BW.out⟩
      have h9 := OW.out
      rw [List.take_of_length_le (by rw [homesL_length]; exact Nat.le_refl _)] at h9
      exact h9
end Go.Proofs.Ytplahohlmiphoaa

namespace Go.Proofs.Ytplahohlmiphoaa
open Go.RowKit
set_option linter.unusedVariables false

theorem sv_at {w : World} {a : Option Addr} {n c : Nat} {A : List (List UInt8)} (h : Rd w 1 (.slice a n c) n (A.map sv)) {j : Nat} {x : List UInt8} (hj : A[j]? = some x) :
    ∃ b off, a = some ⟨b, off, none⟩ ∧ w.cell? ⟨b, off + j, none⟩ = some (.string ⟨x.toArray⟩) := by
  have hl : A.length = n := by have := h.1; simpa using this
  have hjn := (List.getElem?_eq_some_iff.1 hj).1
  obtain ⟨b, off, he, hc⟩ := Rd.addr h (by omega)
  exact ⟨b, off, he, hc j _ (by rw [List.getElem?_map, hj]; rfl)⟩

theorem take_eq_step {A B : List (List UInt8)} {j : Nat} {x y : List UInt8} (hx : A[j]? = some x) (hy : B[j]? = some y) (h : A.take j = B.take j) (he : x = y) : A.take (j + 1) = B.take (j + 1) := by
  rw [List.take_add_one, List.take_add_one, hx, hy, h, he]

set_option maxRecDepth 100000 in
set_option maxHeartbeats 2000000 in
theorem same3_any (w : World) (a b : Option Addr) (n m ca cb : Nat) (A B : List (List UInt8)) (hA : Rd w 1 (.slice a n ca) n (A.map sv)) (hB : Rd w 1 (.slice b m cb) m (B.map sv)) (hn : n ≤ 10000) (hm : m ≤ 10000) :
    Calls Try.prog 29 #[.slice a n ca, .slice b m cb] w fun e w' => e = .returned (.bool (A == B)) ∧ Below w.heap.size w w' := by
  have HA := hid hA
  have HB := hid hB
  have hla : A.length = n := by have := hA.1; simpa using this
  have hlb : B.length = m := by have := hB.1; simpa using this
  clear hA hB
  by_cases hnm : n = m
  · have hnm' : ((n : Int) == (m : Int)) = true := by simp [hnm]
    have LA := hid hla
    have LB := hid hlb
    clear hla hlb
    go_enter Try.func29, Try.ntmps29
    go_wp2_with fail
    go_loopw [5] (fun i wr => ∃ j : Nat, j ≤ n ∧ i = .int .i64 j ∧ Below w.heap.size w wr ∧ A.take j = B.take j) (fun i _ => n + 1 - (intOf i).toNat)
    case atStart => exact ⟨0, Nat.zero_le _, rfl, Below.refl _ _, rfl⟩
    case round =>
      obtain ⟨j, hj, rfl, hb, ht⟩ := hrel
      have BW := hid hb
      have HT := hid ht
      clear hb ht
      by_cases hlt : j < n
      · obtain ⟨x, hx⟩ : ∃ x, A[j]? = some x := ⟨_, List.getElem?_eq_getElem (by rw [LA.out]; exact hlt)⟩
        obtain ⟨y, hy⟩ : ∃ y, B[j]? = some y := ⟨_, List.getElem?_eq_getElem (by rw [LB.out]; omega)⟩
        obtain ⟨ab, ao, rfl, k0⟩ := sv_at (HA.out.new BW.out) hx
        obtain ⟨bb, bo, rfl, k1⟩ := sv_at (HB.out.new BW.out) hy
        have HX := hid hx
        have HY := hid hy
        clear hx hy
        have hjm : j < m := by omega
        generalize hxy : (x == y) = q
        have HXY := hid hxy
        cases q with
        | true =>
          go_wp2_with fail
          go_quiet (fail)
          go_wp2_with fail
          go_roundw
          case rel => exact ⟨j + 1, by omega, by go_num, below_drewN BW.out _, take_eq_step HX.out HY.out HT.out (by simpa using HXY.out)⟩
          case measure => simp [intOf]; omega
        | false =>
          have HN : Hid ((A == B) = false) := hid (by
            rw [beq_eq_false_iff_ne]
            intro he
            have h1 := HX.out
            rw [he, HY.out] at h1
            injection h1 with h1
            have h2 := HXY.out
            rw [h1] at h2
            simp at h2)
          go_wp2_with fail
          go_quiet (fail)
          go_wp2_with fail
          go_ret
          rw [HN.out]
          exact ⟨rfl, below_drewN BW.out _⟩
      · obtain rfl : j = n := by omega
        have HN : Hid ((A == B) = true) := hid (by
          have h1 := HT.out
          rw [List.take_of_length_le (by rw [LA.out]; exact Nat.le_refl _), List.take_of_length_le (by rw [LB.out]; omega)] at h1
          rw [h1]; simp)
        go_wp2_with fail
        go_ret
        rw [HN.out]
        exact ⟨rfl, BW.out⟩
  · have hnm' : ((n : Int) == (m : Int)) = false := by simp; omega
    have HN : Hid ((A == B) = false) := hid (by
      rw [beq_eq_false_iff_ne]
      intro he
      rw [he] at hla
      omega)
    clear hla hlb
    go_enter Try.func29, Try.ntmps29
    go_wp2_with fail
    go_ret
    rw [HN.out]
    exact ⟨rfl, Below.refl _ _⟩
end Go.Proofs.Ytplahohlmiphoaa
