/- slices.Insert at a row's end. btree: change.leaf: a key behind all others is set; the leaf fits. btree: change.at, change.root, Set: a key behind all others, in a tree of one leaf that it fits into. -/
import Derived.Test.YtdilkgcoecipjaaM8
namespace Go.Proofs.Ytdilkgcoecipjaa
open Go.RowKit Go.Maps
set_option linter.unusedVariables false

theorem infoSt1 : (Try.prog.info? TSt).map (·.size) = some 1 := by kernel_rfl

set_option maxRecDepth 100000 in
set_option maxHeartbeats 2000000 in
theorem insert_end (w : World) (B0 : Nat) (p : Option Addr) (n c : Nat) (xs : List Value) (g : Nat) (x : Value) (hown : w.ownsRow B0 TSt 1 (.slice p n c) n xs) (hx : Blk w g [x] TSt) (h1 : x.oneCell' = true) (hB : B0 ≤ w.heap.size) (hn : n ≤ 100000) :
    Calls Try.prog 76 #[.slice p n c, .int .i64 (n : Int), .slice (some ⟨g, 0, none⟩) 1 1] w fun e w' => ∃ p' c', e = .returned (.slice p' (n + 1) c') ∧ w'.ownsRow B0 TSt 1 (.slice p' (n + 1) c') (n + 1) (xs ++ [x]) ∧ Chg (fun k => Value.ownBlock (.slice p n c) = some k) w w' ∧
      (Value.ownBlock (.slice p' (n + 1) c') = Value.ownBlock (.slice p n c) ∨ Value.ownBlock (.slice p' (n + 1) c') = some w.heap.size) := by
  have HO := hid hown
  have HX := hid hx
  have H1 := hid h1
  have hrd := Rd.of_own hown
  obtain ⟨_, p0, c0, he, hnc, hcm, _, _⟩ := hrd
  cases he
  have HRD := hid (Rd.of_own hown)
  clear hown hx h1
  go_enter Try.func76, Try.ntmps76
  go_wp2_with (first
    | (refine wpList_slice_rd rfl 33 _ _ _ rfl 9 1 Try.underlying33 infoSt1 _ _ _ rfl HRD.out n n ⟨_, _, rfl, by omega, by simp⟩ rfl (Nat.le_refl _) (Nat.le_refl _) ?_; intro qa qc hq hqb)
    | (at_builtin; refine wp_keep ?_))
  refine hid ?_
  refine wpList_append_rd rfl _ _ 33 rfl B0 TSt _ 1 16 Try.underlying33 infoSt rfl (by decide) _ _ _ rfl HO.out _ 1 [x] rfl (rd_val HX.out) (by intro u hu; rw [List.mem_singleton] at hu; rw [hu]; exact H1.out) (by simp only [maxLen]; omega) (by omega) hB ?_
  intro p2 c2 w2 ho2 hg2 hv2
  have HO2 := hid ho2
  have HG2 := hid (show Chg (fun k => Value.ownBlock (.slice p n c) = some k) w w2 from Chg.grown hg2)
  have HV2 := hid hv2
  clear ho2 hg2 hv2
  go_wp2_with fail
  go_ret
  exact ⟨p2, c2, rfl, HO2.out, HG2.out, HV2.out⟩
end Go.Proofs.Ytdilkgcoecipjaa

namespace Go.Proofs.Ytdilkgcoecipjaa
open Go.RowKit Go.Maps
set_option linter.unusedVariables false

/-- what a change below a page hands back: the parts, the pager, the change -/
def ChTo (fp : Nat → Prop) (m : Nat) (w : World) (c p d : Nat) (F : Nat → Prop) (s : DS) (S : AS) (N : Nat) (T2 : AS) (l : List (Nat × Tx)) (key val : Tx) (del was last : Bool) (lv : Nat) (e : Ending) (w' : World) : Prop :=
  ∃ (q : Nat) (F' : Nat → Prop) (N' : Nat), e = .returned (.tuple #[.slice (some ⟨q, 0, none⟩) l.length l.length, .int .i64 0]) ∧ Blk w' q (ptV l) TPt ∧ PgV w' p d F' 1600 s S T2 true N' ∧ N' ≤ N + m ∧ Chg fp w w' ∧ (∀ k, F' k → F k ∨ w.heap.size ≤ k) ∧ ¬ F' q ∧ w.heap.size ≤ q ∧
    Blk w' c (chC p key val del was last lv) TCh ∧ ¬ F' c

theorem rd_zero {w w' : World} {v : Value} (h : Rd w 1 v 0 []) : Rd w' 1 v 0 [] := by
  obtain ⟨h0, p, cap, rfl, h1, h2, h3, h4⟩ := h
  exact ⟨h0, p, cap, rfl, h1, h2, h3, fun a ha j u hu => by simp at hu⟩
end Go.Proofs.Ytdilkgcoecipjaa

namespace Go.Proofs.Ytdilkgcoecipjaa
open Go.RowKit Go.Maps
set_option linter.unusedVariables false

/-- at the label -/
def rootJ (R : World → Prop) (c p : Nat) (key val : Tx) (at_ : Nat) (m : Nat) (a : Act) (wr : World) : Prop :=
  ∃ (was last : Bool) (lv : Nat) (u : Nat → Value), Hid (R wr) ∧ Hid (Blk wr c (chC p key val false was last lv) TCh) ∧ u 0 = .pointer (some ⟨c, 0, none⟩) ∧ u 1 = .int .i64 (at_ : Int) ∧ a = ⟨#[u 0, u 1, u 2, u 3, u 4, u 5, u 6, u 7, u 8, u 9, u 10, u 11, u 12, u 13, u 14, u 15, u 16, u 17, u 18, u 19, u 20, u 21, u 22, u 23, u 24, u 25, u 26, u 27, u 28, u 29, u 30, u 31, u 32, u 33, u 34, u 35, u 36, u 37, u 38, u 39, u 40, u 41, u 42, u 43, u 44, u 45, u 46, u 47, u 48, u 49, u 50, u 51, u 52, u 53, u 54, u 55, u 56, u 57, u 58, u 59, u 60, u 61, u 62, u 63, u 64, u 65, u 66, u 67, u 68, u 69, u 70, u 71, u 72, u 73, u 74, u 75, u 76, u 77, u 78, u 79, u 80, u 81, u 82, u 83, u 84, u 85, u 86, u 87, u 88, u 89, u 90, u 91, u 92], []⟩
theorem rootJ_mk {R : World → Prop} {c p : Nat} {key val : Tx} {at_ : Nat} {a : Act} {wr : World} {was last : Bool} {lv : Nat} (hs : a.tmps.size = 93) (hd : a.defers = []) (h0 : a.tmps.getD 0 undef = .pointer (some ⟨c, 0, none⟩)) (h1 : a.tmps.getD 1 undef = .int .i64 (at_ : Int)) (h2 : Hid (R wr)) (h3 : Hid (Blk wr c (chC p key val false was last lv) TCh)) : rootJ R c p key val at_ 0 a wr :=
  ⟨was, last, lv, fun k => a.tmps.getD k undef, h2, h3, h0, h1, act_getD a 93 hs hd⟩

theorem bopen_any (w : World) (p d : Nat) (F : Nat → Prop) (s : DS) (S T : AS) (N : Nat) (hpg : PgV w p d F 1600 s S T true N) (h0 : 0 ≤ T.root) (h1 : T.root ≤ 9223372036854775807) :
    Calls Try.prog 27 #[.pointer (some ⟨p, 0, none⟩)] w fun e w' => e = .returned (.int .i64 0) ∧ PgTo w p d F 1600 s S T true N w' := by
  have HPG := hid hpg
  have HR := hid (show rootO true T T.root = (0, T) by
    rw [show rootO true T T.root = rootA T T.root from if_neg (by simp)]
    unfold rootA
    rw [if_neg (by omega)])
  clear hpg
  go_enter Try.func27, Try.ntmps27
  go_wp2_with fail
  refine HPG.out.root.mono ?_
  rintro e1 wx ⟨rfl, hw⟩
  subst hw
  go_wp2_with fail
  refine (HPG.out.setRoot T.root h1).mono ?_
  rw [HR.out]
  rintro e2 w2 ⟨rfl, hp⟩
  have HP := hid hp
  clear hp
  go_wp2_with fail
  go_ret
  exact ⟨rfl, HP.out⟩

set_option maxRecDepth 100000 in
set_option maxHeartbeats 4000000 in
/-- a key or a value that is too long -/
theorem set_long (w : World) (p : Nat) (at_ : Nat) (key val : Tx) (h : ¬ (key.length ≤ 140 ∧ key.length + val.length ≤ 150)) (hk : key.length ≤ 100000) (hv : val.length ≤ 100000) :
    Calls Try.prog 10 #[.pointer (some ⟨p, 0, none⟩), .int .i64 (at_ : Int), .string (B key), .string (B val)] w fun e w' => e = .returned (.tuple #[.int .i64 0, .int .i64 5]) ∧ w' = w := by
  by_cases h1 : key.length ≤ 140
  · have h2 : ¬ key.length + val.length ≤ 150 := fun h2 => h ⟨h1, h2⟩
    have h3 : ¬ (140 : Int) < (key.length : Int) := by omega
    have h4 : (150 : Int) < (key.length : Int) + (val.length : Int) := by omega
    clear h
    go_enter Try.func10, Try.ntmps10
    go_wp2_with fail
    go_ret2
    exact ⟨rfl, rfl⟩
  · have h3 : (140 : Int) < (key.length : Int) := by omega
    clear h
    go_enter Try.func10, Try.ntmps10
    go_wp2_with fail
    go_ret2
    exact ⟨rfl, rfl⟩

end Go.Proofs.Ytdilkgcoecipjaa
