/- btree: change.at, change.root, Set: a key behind all others, in a tree of one leaf that it fits into. -/
import Derived.Test.YtdilkgcoecipjaaBtU
namespace Go.Proofs.Ytdilkgcoecipjaa
open Go.RowKit Go.Maps
set_option linter.unusedVariables false

set_option maxRecDepth 100000 in
set_option maxHeartbeats 8000000 in
theorem at_end (w : World) (c p d : Nat) (F : Nat → Prop) (s : DS) (S T : AS) (N : Nat) (Nf : Nat → Option Nd) (U M : Nat) (key val : Tx) (was last : Bool) (lv : Nat) (at_ : Nat) (keys vals : List Tx)
    (hc : Blk w c (chC p key val false was last lv) TCh) (hcF : ¬ F c) (hlv : lv + 1 ≤ 64) (hnf : Nf at_ = some ⟨true, keys, vals, []⟩)
    (hsrt : keys.Pairwise (fun a b => ltB a b = true)) (hrk : rk keys key = keys.length) (hpg : PgV w p d F 1600 s S T true N) (hN : N ≤ 999990) (hst : Sto T Nf U M none) (hok2 : OkN ⟨true, keys ++ [key], vals ++ [val], []⟩) (hsz : sizeP ⟨true, keys ++ [key], vals ++ [val], []⟩ ≤ 504) :
    Calls Try.prog 46 #[.pointer (some ⟨c, 0, none⟩), .int .i64 (at_ : Int)] w fun e w' => ∃ T2 last', ChTo (fun k => F k ∨ k = c) 1 w c p d F s S N T2 [(at_, [])] key val false false last' (lv + 1) e w' ∧ Sto T2 (updN Nf at_ (some ⟨true, keys ++ [key], vals ++ [val], []⟩)) U M none ∧ T2.root = T.root := by
  obtain ⟨hB, hok, hs0, hk6⟩ := hst.vw at_ _ hnf
  have hvl := (okn_leaf hok rfl).1
  have hk251 := (keys_lt hok hs0).1
  have hcl := hc.lt
  have HB := hid hB
  have HOK := hid hok
  have HS0 := hid hs0
  have HVL := hid hvl
  have HCC := hid hc
  have HCF := hid hcF
  have HNF := hid hnf
  have HSRT := hid hsrt
  have HRK := hid hrk
  have HPG := hid hpg
  have HST := hid hst
  have HOK2 := hid hok2
  have HSZ := hid hsz
  have hFl := hpg.lt
  have HFL := hid hFl
  have hk251 : keys.length ≤ 251 := hk251
  obtain ⟨y0, y1, y2, y3, y4, y5, y6, z4, z5, z6⟩ := ch_cells hc
  clear hc hcF hnf hsrt hrk hpg hst hok2 hsz hB hok hs0 hvl hFl
  go_enter Try.func46, Try.ntmps46
  go_wp2_with fail
  obtain ⟨w1, hw1⟩ : ∃ x, w.setCell ⟨c, 6, none⟩ (.int .i64 ((lv : Int) + 1)) = x := ⟨_, rfl⟩
  have hc1 : Chg (fun k => k = c) w w1 := by rw [← hw1]; exact Chg.setCell (fp := fun k => k = c) _ rfl _
  have HC1 : Hid (Blk w1 c (chC p key val false was last (lv + 1)) TCh) := hid (by rw [← hw1]; exact HCC.out.set 6 _)
  have HP1 := hid (HPG.out.chg hc1 (fun k hk h => HCF.out (h ▸ hk)))
  have HG1 := hid (hc1.mono (fq := fun k => F k ∨ k = c) (fun k _ h => .inr h))
  have hs1 := hc1.size
  rw [hw1]
  have HW1 := hid hw1
  clear hw1 hc1 y0 y1 y2 y3 y4 y5 y6 z4 z5 z6
  refine (nread_any w1 p d F 1600 s S T true N at_ _ HP1.out HB.out HOK.out HS0.out).mono ?_
  rintro e2 w2 ⟨pk, ck, pv, cv, pd, cd, rfl, hown, hb2⟩
  simp only [HVL.out, List.length_nil] at hown ⊢
  have hB0 := hb2.size
  have HO2 := hid hown
  have HC2 := hid (HC1.out.chg (Chg.new hb2 NoFp) (fun h => h))
  have HP2 := hid (HP1.out.new' hb2)
  have HG2 := hid (HG1.out.trans (Chg.new hb2 NoFp) (fun _ _ h => h.elim))
  clear hown hb2
  obtain ⟨y0, y1, y2, y3, y4, y5, y6, z4, z5, z6⟩ := ch_cells HC2.out
  have hcl2 : c < w2.heap.size := by omega
  have hlv2 : ¬ (64 : Int) < (lv : Int) + 1 := by omega
  unfold ndV
  go_wp2_with fail
  obtain ⟨w3, hw3⟩ : ∃ x, w2.alloc (.cells #[.bool true, .slice pk keys.length ck, .slice pv keys.length cv, .slice pd 0 cd] 59) = x := ⟨_, rfl⟩
  have hal : Below w2.heap.size w2 w3 := by rw [← hw3]; exact (Below.refl _ _).alloc (Nat.le_refl _) _
  have hs3 := hal.size
  rw [hw3]
  have HO3 := hid (HO2.out.new hal)
  have HC3 := hid (HC2.out.chg (Chg.new hal NoFp) (fun h => h))
  have HP3 := hid (HP2.out.new' hal)
  have HG3 := hid (HG2.out.trans (Chg.new hal NoFp) (fun _ _ h => h.elim))
  clear hw3 hal y0 y1 y2 y3 y4 y5 y6 z4 z5 z6
  have hok3 := HO3.out.keys
  have hov3 := HO3.out.vals
  have hne3 := HO3.out.ne
  have hod3 := Rd.of_own HO3.out.kids
  simp only [HVL.out, List.length_nil] at hov3 hne3 hod3
  refine (leaf_end w3 c p d F s S T N Nf U M key val was last (lv + 1) at_ keys vals w1.heap.size keys.length pk ck pv cv pd cd HC3.out HCF.out (by omega) (fun k hk => by have := HFL.out k hk; omega) (by omega) hok3 hov3 hne3 hod3 rfl HVL.out hk251 HSRT.out HRK.out HP3.out hN HST.out (by rw [HNF.out]; rfl) HOK2.out HSZ.out).mono ?_
  rintro e4 w4 ⟨T2, last', ⟨q, F', N', rfl, hq, hv, hN', hc4, hF', hqF, hqw, hcc, hcF'⟩, hst2, hr2⟩
  have HFIN : Hid (∃ T2 last', ChTo (fun k => F k ∨ k = c) 1 w c p d F s S N T2 [(at_, [])] key val false false last' (lv + 1) (.returned (.tuple #[.slice (some ⟨q, 0, none⟩) 1 1, .int .i64 0])) w4 ∧ Sto T2 (updN Nf at_ (some ⟨true, keys ++ [key], vals ++ [val], []⟩)) U M none ∧ T2.root = T.root) := hid
    ⟨T2, last', ⟨q, F', N', rfl, hq, hv, hN', HG3.out.trans hc4 (fun k hk h => by rcases h with h | h | h; exact .inl h; exact .inr h; omega), fun k hk => (hF' k hk).imp id (fun h => by omega), hqF, by omega, hcc, hcF'⟩, hst2, hr2⟩
  clear hq hv hN' hc4 hF' hqF hqw hcc hcF' hst2 hr2 hok3 hov3 hne3 hod3
  go_wp2_with fail
  go_ret2
  exact HFIN.out

/-- at the label -/
def rootJ (R : World → Prop) (c p : Nat) (key val : Tx) (at_ : Nat) (m : Nat) (a : Act) (wr : World) : Prop :=
  ∃ (was last : Bool) (lv : Nat) (u : Nat → Value), Hid (R wr) ∧ Hid (Blk wr c (chC p key val false was last lv) TCh) ∧ u 0 = .pointer (some ⟨c, 0, none⟩) ∧ u 1 = .int .i64 (at_ : Int) ∧ a = ⟨#[u 0, u 1, u 2, u 3, u 4, u 5, u 6, u 7, u 8, u 9, u 10, u 11, u 12, u 13, u 14, u 15, u 16, u 17, u 18, u 19, u 20, u 21, u 22, u 23, u 24, u 25, u 26, u 27, u 28, u 29, u 30, u 31, u 32, u 33, u 34, u 35, u 36, u 37, u 38, u 39, u 40, u 41, u 42, u 43, u 44, u 45, u 46, u 47, u 48, u 49, u 50, u 51, u 52, u 53, u 54, u 55, u 56, u 57, u 58, u 59, u 60, u 61, u 62, u 63, u 64, u 65, u 66, u 67, u 68, u 69, u 70, u 71, u 72, u 73, u 74, u 75, u 76, u 77, u 78, u 79, u 80, u 81, u 82, u 83, u 84, u 85, u 86, u 87, u 88, u 89, u 90, u 91, u 92], []⟩
theorem rootJ_mk {R : World → Prop} {c p : Nat} {key val : Tx} {at_ : Nat} {a : Act} {wr : World} {was last : Bool} {lv : Nat} (hs : a.tmps.size = 93) (hd : a.defers = []) (h0 : a.tmps.getD 0 undef = .pointer (some ⟨c, 0, none⟩)) (h1 : a.tmps.getD 1 undef = .int .i64 (at_ : Int)) (h2 : Hid (R wr)) (h3 : Hid (Blk wr c (chC p key val false was last lv) TCh)) : rootJ R c p key val at_ 0 a wr :=
  ⟨was, last, lv, fun k => a.tmps.getD k undef, h2, h3, h0, h1, act_getD a 93 hs hd⟩

set_option maxRecDepth 100000 in
set_option maxHeartbeats 8000000 in
theorem root_end (w : World) (c p d : Nat) (F : Nat → Prop) (s : DS) (S T : AS) (N : Nat) (Nf : Nat → Option Nd) (U M : Nat) (key val : Tx) (was last : Bool) (lv : Nat) (at_ : Nat) (keys vals : List Tx)
    (hc : Blk w c (chC p key val false was last lv) TCh) (hcF : ¬ F c) (hlv : lv + 1 ≤ 64) (hnf : Nf at_ = some ⟨true, keys, vals, []⟩)
    (hsrt : keys.Pairwise (fun a b => ltB a b = true)) (hrk : rk keys key = keys.length) (hpg : PgV w p d F 1600 s S T true N) (hN : N ≤ 999990) (hst : Sto T Nf U M none) (hok2 : OkN ⟨true, keys ++ [key], vals ++ [val], []⟩) (hsz : sizeP ⟨true, keys ++ [key], vals ++ [val], []⟩ ≤ 504) :
    Calls Try.prog 28 #[.pointer (some ⟨c, 0, none⟩), .int .i64 (at_ : Int)] w fun e w' => ∃ T2 F' N', e = .returned (.tuple #[.int .i64 (at_ : Int), .int .i64 0]) ∧ PgV w' p d F' 1600 s S T2 true N' ∧ N' ≤ N + 1 ∧ Chg (fun k => F k ∨ k = c) w w' ∧ (∀ k, F' k → F k ∨ w.heap.size ≤ k) ∧ Sto T2 (updN Nf at_ (some ⟨true, keys ++ [key], vals ++ [val], []⟩)) U M none ∧ T2.root = T.root := by
  have HA := hid (at_end w c p d F s S T N Nf U M key val was last lv at_ keys vals hc hcF hlv hnf hsrt hrk hpg hN hst hok2 hsz)
  clear hc hcF hnf hsrt hrk hpg hst hok2 hsz
  go_enter Try.func28, Try.ntmps28
  go_wp2_with fail
  refine wp_scope_goto 0 (rootJ (fun w1 => ∃ T2 F' N', PgV w1 p d F' 1600 s S T2 true N' ∧ N' ≤ N + 1 ∧ Chg (fun k => F k ∨ k = c) w w1 ∧ (∀ k, F' k → F k ∨ w.heap.size ≤ k) ∧ Sto T2 (updN Nf at_ (some ⟨true, keys ++ [key], vals ++ [val], []⟩)) U M none ∧ T2.root = T.root) c p key val at_) rfl ?pass ?first
  case first =>
    intro K hK
    go_wp2_with fail
    refine HA.out.mono ?_
    rintro e1 w1 ⟨T2, last', ⟨q, F', N', rfl, hq, hv, hN', hc4, hF', hqF, hqw, hcc, hcF'⟩, hst2, hr2⟩
    have HCC := hid hcc
    have HFIN := hid (show ∃ T2 F' N', PgV w1 p d F' 1600 s S T2 true N' ∧ N' ≤ N + 1 ∧ Chg (fun k => F k ∨ k = c) w w1 ∧ (∀ k, F' k → F k ∨ w.heap.size ≤ k) ∧ Sto T2 (updN Nf at_ (some ⟨true, keys ++ [key], vals ++ [val], []⟩)) U M none ∧ T2.root = T.root from ⟨T2, F', N', hv, hN', hc4, hF', hst2, hr2⟩)
    clear hq hv hN' hc4 hF' hqF hqw hcc hcF' hst2 hr2
    simp only [List.length_cons, List.length_nil]
    go_wp2_with fail
    refine wp_label ?_
    simp only [Exit.then]
    rename_i hK'
    exact hK' _ _ (hK _ _ _ (rootJ_mk rfl rfl rfl rfl HFIN HCC))
  case pass =>
    rintro m a wr ⟨was, last, lv, u, HFIN, HCC, u0, u1, rfl⟩ K hK
    rw [u0, u1]
    clear u0 u1
    obtain ⟨y0, y1, y2, y3, y4, y5, y6, z4, z5, z6⟩ := ch_cells HCC.out
    go_wp2_with fail
    go_loopw [1] (fun v1 wr2 => v1 = .int .i64 (at_ : Int) ∧ wr2 = wr) (fun _ _ => 0)
    case atStart => exact ⟨rfl, rfl⟩
    case round =>
      obtain ⟨rfl, rfl⟩ := hrel
      go_wp2_with fail
      try rw [Exit.jump_ret]
      go_ret2
      obtain ⟨T2, F', N', h1, h2, h3, h4, h5, h6⟩ := HFIN.out
      exact ⟨T2, F', N', rfl, h1, h2, h3, h4, h5, h6⟩

theorem bopen_any (w : World) (p d : Nat) (F : Nat → Prop) (s : DS) (S T : AS) (N : Nat) (hpg : PgV w p d F 1600 s S T true N) (h0 : 0 ≤ T.root) (h1 : T.root ≤ 9223372036854775807) :
    Calls Try.prog 27 #[.pointer (some ⟨p, 0, none⟩)] w fun e w' => e = .returned (.int .i64 0) ∧ PgTo w p d F 1600 s S T true N w' := by
  have HPG := hid hpg
  have HR := hid (show rootO true T T.root = (0, T) by
    rw [show rootO true T T.root = rootA T T.root from if_neg (by simp)]
    unfold rootA
    rw [if_neg (by omega)])
  clear hpg
  go_enter Try.func27, Try.ntmps27
  go_wp2_with fail
  refine HPG.out.root.mono ?_
  rintro e1 wx ⟨rfl, hw⟩
  subst hw
  go_wp2_with fail
  refine (HPG.out.setRoot T.root h1).mono ?_
  rw [HR.out]
  rintro e2 w2 ⟨rfl, hp⟩
  have HP := hid hp
  clear hp
  go_wp2_with fail
  go_ret
  exact ⟨rfl, HP.out⟩

set_option maxRecDepth 100000 in
set_option maxHeartbeats 4000000 in
/-- a key or a value that is too long -/
theorem set_long (w : World) (p : Nat) (at_ : Nat) (key val : Tx) (h : ¬ (key.length ≤ 140 ∧ key.length + val.length ≤ 150)) (hk : key.length ≤ 100000) (hv : val.length ≤ 100000) :
    Calls Try.prog 10 #[.pointer (some ⟨p, 0, none⟩), .int .i64 (at_ : Int), .string (B key), .string (B val)] w fun e w' => e = .returned (.tuple #[.int .i64 0, .int .i64 5]) ∧ w' = w := by
  by_cases h1 : key.length ≤ 140
  · have h2 : ¬ key.length + val.length ≤ 150 := fun h2 => h ⟨h1, h2⟩
    have h3 : ¬ (140 : Int) < (key.length : Int) := by omega
    have h4 : (150 : Int) < (key.length : Int) + (val.length : Int) := by omega
    clear h
    go_enter Try.func10, Try.ntmps10
    go_wp2_with fail
    go_ret2
    exact ⟨rfl, rfl⟩
  · have h3 : (140 : Int) < (key.length : Int) := by omega
    clear h
    go_enter Try.func10, Try.ntmps10
    go_wp2_with fail
    go_ret2
    exact ⟨rfl, rfl⟩

set_option maxRecDepth 100000 in
set_option maxHeartbeats 8000000 in
theorem set_end (w : World) (p d : Nat) (F : Nat → Prop) (s : DS) (S T : AS) (N : Nat) (Nf : Nat → Option Nd) (U M : Nat) (key val : Tx) (at_ : Nat) (keys vals : List Tx)
    (hk1 : key.length ≤ 140) (hk2 : key.length + val.length ≤ 150) (hnf : Nf at_ = some ⟨true, keys, vals, []⟩) (h0 : 0 ≤ T.root) (h1 : T.root ≤ 9223372036854775807)
    (hsrt : keys.Pairwise (fun a b => ltB a b = true)) (hrk : rk keys key = keys.length) (hpg : PgV w p d F 1600 s S T true N) (hN : N ≤ 999900) (hst : Sto T Nf U M none) (hok2 : OkN ⟨true, keys ++ [key], vals ++ [val], []⟩) (hsz : sizeP ⟨true, keys ++ [key], vals ++ [val], []⟩ ≤ 504) :
    Calls Try.prog 10 #[.pointer (some ⟨p, 0, none⟩), .int .i64 (at_ : Int), .string (B key), .string (B val)] w fun e w' => ∃ T2, e = .returned (.tuple #[.int .i64 (at_ : Int), .int .i64 0]) ∧ PgM 2 w p d F s S T2 N w' ∧ Sto T2 (updN Nf at_ (some ⟨true, keys ++ [key], vals ++ [val], []⟩)) U M none ∧ T2.root = T.root := by
  have HOP := hid (bopen_any w p d F s S T N hpg h0 h1)
  have HNF := hid hnf
  have HSRT := hid hsrt
  have HRK := hid hrk
  have HST := hid hst
  have HOK2 := hid hok2
  have HSZ := hid hsz
  have HFL := hid hpg.lt
  have h3 : ¬ (140 : Int) < (key.length : Int) := by omega
  have h4 : ¬ (150 : Int) < (key.length : Int) + (val.length : Int) := by omega
  clear hnf hsrt hrk hpg hst hok2 hsz h0 h1
  go_enter Try.func10, Try.ntmps10
  go_wp2_with fail
  refine HOP.out.mono ?_
  rintro e1 w1 ⟨rfl, F1, N1, hv1, hN1, hc1, hF1⟩
  have HV1 := hid hv1
  have HC1 := hid hc1
  have HF1 := hid hF1
  clear hv1 hc1 hF1
  go_wp2_with fail
  obtain ⟨c, hcn⟩ : ∃ b, w1.heap.size = b := ⟨_, rfl⟩
  obtain ⟨w2, hw2⟩ : ∃ x, w1.alloc (.cells #[.pointer (some ⟨p, 0, none⟩), .string (B key), .string (B val), .bool false, .bool false, .bool true, .int .i64 0] 64) = x := ⟨_, rfl⟩
  have hal : Below w1.heap.size w1 w2 := by rw [← hw2]; exact (Below.refl _ _).alloc (Nat.le_refl _) _
  have hcc : Blk w2 c (chC p key val false false true 0) TCh := by rw [← hw2, ← hcn]; exact heap_alloc_new _ _
  rw [hw2, hcn]
  have hs1 := HC1.out.size
  have hs2 := hal.size
  refine (root_end w2 c p d F1 s S T N1 Nf U M key val false true 0 at_ keys vals hcc (fun h => by have := HV1.out.lt c h; omega) (by omega) HNF.out HSRT.out HRK.out (HV1.out.new' hal) (by omega) HST.out HOK2.out HSZ.out).mono ?_
  rintro e3 w3 ⟨T2, F3, N3, rfl, hv3, hN3, hc3, hF3, hst3, hr3⟩
  have HFIN : Hid (PgM 2 w p d F s S T2 N w3 ∧ Sto T2 (updN Nf at_ (some ⟨true, keys ++ [key], vals ++ [val], []⟩)) U M none ∧ T2.root = T.root) := hid
    ⟨⟨F3, N3, hv3, by omega, (HC1.out.trans (Chg.new hal NoFp) (fun _ _ h => h.elim)).trans hc3 (fun k hk h => by
        rcases h with h | h
        · rcases HF1.out k h with h2 | h2
          · exact h2
          · omega
        · omega), fun k hk => by
        rcases hF3 k hk with h | h
        · exact HF1.out k h
        · exact .inr (by omega)⟩, hst3, hr3⟩
  clear hv3 hN3 hc3 hF3 hst3 hr3
  go_wp2_with fail
  go_ret2
  exact ⟨T2, rfl, HFIN.out⟩
end Go.Proofs.Ytdilkgcoecipjaa
