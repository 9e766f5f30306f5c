/- slices.SortStableFunc of rows. -/
import Derived.Test.YtkhdadbbgfjcgaaSolG
namespace Go.Proofs.Ytkhdadbbgfjcgaa
open Go.RowKit
set_option linter.unusedVariables false

/-- blocks, each of n rows in order -/
def Bks (n : Nat) (Bs : List (List Rw)) : Prop := ∀ B ∈ Bs, B.length = n ∧ Sd KR B
theorem Bks.nil (n : Nat) : Bks n [] := fun B h => by cases h
theorem Bks.snoc {n : Nat} {Bs : List (List Rw)} {B : List Rw} (h : Bks n Bs) (h1 : B.length = n) (h2 : Sd KR B) : Bks n (Bs ++ [B]) := fun C hC => by
  rcases List.mem_append.1 hC with hC | hC
  · exact h C hC
  · simp at hC; subst hC; exact ⟨h1, h2⟩
theorem Bks.len {n : Nat} : ∀ {Bs : List (List Rw)}, Bks n Bs → Bs.flatten.length = Bs.length * n
  | [], _ => by simp
  | B :: Bs, h => by
    have h1 := (h B (List.mem_cons_self ..)).1
    have h2 := Bks.len (Bs := Bs) (fun C hC => h C (List.mem_cons_of_mem _ hC))
    rw [List.flatten_cons, List.length_append, h1, h2, List.length_cons, Nat.add_mul]; omega
theorem Bks.tail {n : Nat} {B : List Rw} {Bs : List (List Rw)} (h : Bks n (B :: Bs)) : Bks n Bs := fun C hC => h C (List.mem_cons_of_mem _ hC)
theorem one1_ev {a b : List Rw} (h : One1 a) (k : Ev KR b a) : One1 b := fun x hx => h x (k.mem.1 hx)
theorem perm_len {a b : List Rw} (h : a.Perm b) : a.length = b.length := h.length_eq
/-- one part in order -/
theorem ev_part {X A Y : List Rw} : Ev KR (X ++ (srt KR A ++ Y)) (X ++ (A ++ Y)) := (Ev.rfl' X).app ((ev_srt A).app (Ev.rfl' Y))

set_option maxRecDepth 100000 in
theorem insSort_nil (w : World) :
    Calls Try.prog 67 #[.slice none 0 0, .int .i64 0, .int .i64 0, fv] w fun e w' => e = .returned (.tuple #[]) ∧ w = w' := by
  go_enter Try.func67, Try.ntmps67
  go_wp2_with fail
  go_loopw [8] (fun vi wr => vi = .int .i64 1 ∧ w = wr) (fun vi _ => 0)
  case atStart => exact ⟨rfl, rfl⟩
  case round =>
    obtain ⟨rfl, rfl⟩ := hrel
    go_wp2_with fail
    go_end0
    exact ⟨rfl, rfl⟩
set_option maxRecDepth 100000 in
theorem stable_nil (w : World) :
    Calls Try.prog 52 #[.slice none 0 0, .int .i64 0, fv] w fun e w' => e = .returned (.tuple #[]) ∧ w = w' := by
  go_enter Try.func52, Try.ntmps52
  go_wp2_with fail
  go_loopw [7, 8] (fun va vb wr => va = .int .i64 0 ∧ vb = .int .i64 20 ∧ w = wr) (fun va vb _ => 0)
  case atStart => exact ⟨rfl, rfl, rfl⟩
  case round =>
    obtain ⟨rfl, rfl, rfl⟩ := hrel
    go_wp2_with fail
    refine (insSort_nil w).mono ?_; rintro e1 w1 ⟨rfl, hw⟩; subst hw
    go_wp2_with fail
    go_loopw [6] (fun vs wr => vs = .int .i64 20 ∧ w = wr) (fun vs _ => 0)
    case atStart => exact ⟨rfl, rfl⟩
    case round =>
      obtain ⟨rfl, rfl⟩ := hrel
      go_wp2_with fail
      go_end0
      exact ⟨rfl, rfl⟩

set_option maxRecDepth 100000 in
set_option maxHeartbeats 4000000 in
theorem stable_any (l : List Rw) (r : List Value) (g n c : Nat) (w : World) (h : Ro w g l r) (h1 : One1 l) (hn : n = l.length) (hlim : n ≤ 1000000) :
    Calls Try.prog 52 #[.slice (some ⟨g, 0, none⟩) n c, .int .i64 n, fv] w fun e w' => e = .returned (.tuple #[]) ∧ Ro w' g (srt KR l) r ∧ Chg (fun k => k = g) w w' := by
  have H := hid h
  have HU := hid h1
  have HN := hid hn
  clear h h1 hn
  go_enter Try.func52, Try.ntmps52
  go_wp2_with fail
  go_loopw [7, 8] (fun va vb wr => ∃ (a b : Nat) (Bs : List (List Rw)) (R : List Rw), va = .int .i64 a ∧ vb = .int .i64 b ∧ b = a + 20 ∧ a ≤ n ∧ Hid (Bs.flatten.length = a) ∧ Hid (Bks 20 Bs) ∧ Hid (Ev KR (Bs.flatten ++ R) l ∧ (Bs.flatten ++ R).length = n) ∧
      Hid (Ro wr g (Bs.flatten ++ R) r) ∧ Hid (Chg (fun k => k = g) w wr)) (fun va vb _ => n + 1 - (intOf va).toNat)
  case atStart => exact ⟨0, 20, [], l, rfl, rfl, rfl, Nat.zero_le _, rfl, Bks.nil 20, ⟨Ev.rfl' _, HN.out.symm⟩, H, Chg.refl _ _⟩
  case round =>
    obtain ⟨a, b, Bs, R, rfl, rfl, hba, han, HAL, HBK, HEV, HO, HC⟩ := hrel
    have hRn : a + R.length = n := by have := HEV.out.2; rw [List.length_append, HAL.out] at this; exact this
    have HRN := hid (And.intro hRn hba)
    clear hRn hba
    by_cases hlt : b ≤ n
    · have hlt2 : (b : Int) ≤ (n : Int) := by omega
      obtain ⟨C, R', rfl, hC⟩ : ∃ C R', R = C ++ R' ∧ C.length = 20 := ⟨R.take 20, R.drop 20, (List.take_append_drop _ _).symm, by rw [List.length_take]; have := HRN.out; omega⟩
      have hba2 : (b : Int) + 20 = ((b + 20 : Nat) : Int) := by omega
      obtain ⟨b2, hb2⟩ : ∃ b2, b2 = b + 20 := ⟨_, rfl⟩
      have HB2 := hid hb2
      clear hb2 hba2
      have HCL := hid hC
      clear hC
      go_wp2_with fail
      refine (insSort_any Bs.flatten C R' r g a b n c wr HO.out (one1_ev HU.out HEV.out.1) HEV.out.2.symm HAL.out.symm (by have := HCL.out; have := HRN.out; omega) hlim).mono ?_
      rintro e1 w1 ⟨rfl, ho1, hc1⟩
      have HO1 := hid ho1
      have HC1 := hid (HC.out.trans hc1 (fun _ _ h => h))
      clear ho1 hc1
      go_wp2_with fail
      go_roundw
      case rel => exact ⟨b, b + 20, Bs ++ [srt KR C], R', rfl, by go_num, rfl, hlt, hid (by have h3 := HAL.out; have h4 := HCL.out; have h5 := HRN.out; rw [List.flatten_append, List.length_append, h3]; simp [srt_len]; omega), HBK.out.snoc (by rw [srt_len]; exact HCL.out) (sd_srt _),
        hid ⟨by have := ev_part.trans HEV.out.1; simpa using this, by have := HEV.out.2; simp [srt_len] at this ⊢; omega⟩, by have := HO1.out; exact hid (by simpa using this), HC1⟩
      case measure => have := HRN.out; simp [intOf]; omega
    · have hlt2 : ¬ (b : Int) ≤ (n : Int) := by omega
      go_wp2_with fail
      refine (insSort_any Bs.flatten R [] r g a n n c wr (by simpa using HO.out) (by simpa using one1_ev HU.out HEV.out.1) (by simpa using HEV.out.2.symm) HAL.out.symm HRN.out.1.symm hlim).mono ?_
      rintro e1 w1 ⟨rfl, ho1, hc1⟩
      rw [List.append_nil] at ho1
      have HO1 := hid ho1
      have HC1 := hid (HC.out.trans hc1 (fun _ _ h => h))
      have HR20 := hid (show (srt KR R).length < 20 by rw [srt_len]; have := HRN.out; omega)
      have HE1 : Hid (Ev KR (Bs.flatten ++ srt KR R) l ∧ (Bs.flatten ++ srt KR R).length = n) := hid ⟨((Ev.rfl' _).app (ev_srt R)).trans HEV.out.1, by have := HEV.out.2; rw [List.length_append] at this ⊢; rw [srt_len]; exact this⟩
      have HS1 := hid (sd_srt (key := KR) R)
      clear ho1 hc1
      generalize srt KR R = R1 at HO1 HR20 HE1 HS1
      go_wp2_with fail
      go_loopw [6] (fun vs wr => ∃ (bs : Nat) (Bs : List (List Rw)) (R : List Rw), vs = .int .i64 bs ∧ 0 < bs ∧ bs ≤ 2000000 ∧ Hid (Bks bs Bs ∧ R.length < bs ∧ Sd KR R) ∧ Hid (Ev KR (Bs.flatten ++ R) l ∧ (Bs.flatten ++ R).length = n) ∧
        Hid (Ro wr g (Bs.flatten ++ R) r) ∧ Hid (Chg (fun k => k = g) w wr)) (fun vs _ => n + 1 - (intOf vs).toNat)
      case atStart => exact ⟨20, Bs, R1, rfl, by omega, by omega, ⟨HBK.out, HR20.out, HS1.out⟩, HE1, HO1, HC1⟩
      case round =>
        clear HO1 HC1 HR20 HE1 HS1 HEV HO HC HRN HAL HBK hlt hlt2 han
        obtain ⟨bs, Bs, R, rfl, hbs0, hbsl, HB, HEV, HO, HC⟩ := hrel
        by_cases hlt : bs < n
        · have hlt2 : (bs : Int) < (n : Int) := by omega
          have HL0 := hid hlt
          go_wp2_with fail
          go_loopw [7, 8] (fun va vb wr => ∃ (a b : Nat) (Ds Bs : List (List Rw)), va = .int .i64 a ∧ vb = .int .i64 b ∧ a ≤ n ∧ b ≤ 5000000 ∧ Hid (b = a + 2 * bs) ∧ Hid (Ds.flatten.length = a ∧ Bks (2 * bs) Ds ∧ Bks bs Bs) ∧
            Hid (Ev KR (Ds.flatten ++ (Bs.flatten ++ R)) l ∧ Ds.flatten.length + (Bs.flatten.length + R.length) = n) ∧ Hid (Ro wr g (Ds.flatten ++ (Bs.flatten ++ R)) r) ∧ Hid (Chg (fun k => k = g) w wr)) (fun va vb _ => n + 1 - (intOf va).toNat)
          case atStart => exact ⟨0, 2 * bs, [], Bs, rfl, by go_num, Nat.zero_le _, by omega, hid (by omega), hid ⟨rfl, Bks.nil _, HB.out.1⟩, hid ⟨HEV.out.1, by have := HEV.out.2; simpa using this⟩, HO, HC⟩
          case round =>
            have HRR := hid HB.out.2
            clear HB HEV HO HC
            obtain ⟨a, b, Ds, Bs, rfl, rfl, han, hbl, HBA, HD, HEV, HO, HC⟩ := hrel
            obtain ⟨m, hm⟩ : ∃ m : Nat, (a : Int) + (bs : Int) = (m : Int) := ⟨a + bs, by omega⟩
            have HM := hid (show m = a + bs by omega)
            by_cases hbn : b ≤ n
            · have hbn2 : (b : Int) ≤ (n : Int) := by omega
              have hl := HEV.out.2
              rw [HD.out.2.2.len, HD.out.1] at hl
              obtain ⟨B1, B2, Bs, rfl⟩ : ∃ B1 B2 Bs', Bs = B1 :: B2 :: Bs' := by
                have h1 := HBA.out
                have h2 := HRR.out.1
                match Bs, hl with
                | [], hl => simp at hl; omega
                | [B], hl => simp at hl; omega
                | B1 :: B2 :: Bs', _ => exact ⟨B1, B2, Bs', rfl⟩
              have hB1 := HD.out.2.2 B1 (List.mem_cons_self ..)
              have hB2 := HD.out.2.2 B2 (List.mem_cons_of_mem _ (List.mem_cons_self ..))
              have HB1 := hid hB1
              have HB2 := hid hB2
              obtain ⟨b2, hb2⟩ : ∃ b2 : Nat, (b : Int) + 2 * (bs : Int) = (b2 : Int) := ⟨b + 2 * bs, by omega⟩
              have HBB := hid (show b2 = b + 2 * bs by omega)
              have hb2l : b2 ≤ 5000000 := by omega
              clear hl hB1 hB2
              go_wp2_with fail
              refine (symMerge_any (B1.length + B2.length) Ds.flatten B1 B2 (Bs.flatten ++ R) r g a m b n c wr (Nat.le_refl _) (by have := HO.out; simpa using this) (by have := one1_ev HU.out HEV.out.1; simpa using this) (by have := HEV.out.2; simp only [List.flatten_cons, List.length_append] at this ⊢; omega)
                HD.out.1.symm (by rw [HB1.out.1]; exact HM.out) (by rw [HB2.out.1]; have := HM.out; have := HBA.out; omega) (by rw [HB1.out.1]; exact hbs0) (by rw [HB2.out.1]; exact hbs0) hlim HB1.out.2 HB2.out.2).mono ?_
              rintro e1 w1 ⟨rfl, ho1, hc1⟩
              have HO1 := hid ho1
              have HC1 := hid (HC.out.trans hc1 (fun _ _ h => h))
              clear ho1 hc1
              go_wp2_with fail
              go_roundw
              case rel => exact ⟨b, b2, Ds ++ [srt KR (B1 ++ B2)], Bs, rfl, by go_num, hbn, hb2l, HBB, hid ⟨by have h1 := HD.out.1; have h2 := HB1.out.1; have h3 := HB2.out.1; have h4 := HBA.out; rw [List.flatten_append, List.length_append, h1]; simp [srt_len]; omega,
                HD.out.2.1.snoc (by have h2 := HB1.out.1; have h3 := HB2.out.1; rw [srt_len, List.length_append]; omega) (sd_srt _), HD.out.2.2.tail.tail⟩,
                hid ⟨by have := (ev_part (X := Ds.flatten) (A := B1 ++ B2) (Y := Bs.flatten ++ R)).trans (by have := HEV.out.1; simpa using this); simpa using this, by have := HEV.out.2; simp [srt_len] at this ⊢; omega⟩, by have := HO1.out; exact hid (by simpa using this), HC1⟩
              case measure => have := HBA.out; simp [intOf]; omega
            · have hbn2 : ¬ (b : Int) ≤ (n : Int) := by omega
              have hl := HEV.out.2
              rw [HD.out.2.2.len, HD.out.1] at hl
              have HLL := hid hl
              clear hl
              cases Bs with
              | nil =>
                have hmn : ¬ (m : Int) < (n : Int) := by have h1 := HLL.out; have h2 := HM.out; have h3 := HRR.out.1; simp at h1; omega
                go_wp2_with fail
                go_roundw
                case rel => exact ⟨2 * bs, Ds, R, by go_num, by omega, by omega, hid ⟨HD.out.2.1, by have := HRR.out.1; omega, HRR.out.2⟩, hid ⟨by have := HEV.out.1; simpa using this, by have := HEV.out.2; simp at this ⊢; omega⟩, by have := HO.out; exact hid (by simpa using this), HC⟩
                case measure => have := HL0.out; simp [intOf]; omega
              | cons B1 Bs =>
                have hB1 := HD.out.2.2 B1 (List.mem_cons_self ..)
                have HB1 := hid hB1
                clear hB1
                have h1 : Bs.length = 0 := by
                  rcases Nat.eq_zero_or_pos Bs.length with h | h
                  · exact h
                  · exfalso
                    have h1 : 2 * bs ≤ (B1 :: Bs).length * bs := Nat.mul_le_mul_right _ (by simp; omega)
                    have h2 := HLL.out
                    have h3 := HBA.out
                    omega
                have h2 : Bs = [] := List.eq_nil_of_length_eq_zero h1
                subst h2
                clear h1
                have h1 : a + (bs + R.length) = n := by have := HLL.out; simp at this; omega
                have HAR := hid h1
                clear h1
                by_cases hR : R.length = 0
                · have hmn : ¬ (m : Int) < (n : Int) := by have h1 := HAR.out; have h2 := HM.out; omega
                  have hR0 : R = [] := List.eq_nil_of_length_eq_zero hR
                  subst hR0
                  clear hR
                  go_wp2_with fail
                  go_roundw
                  case rel => exact ⟨2 * bs, Ds, B1, by go_num, by omega, by omega, hid ⟨HD.out.2.1, by have := HB1.out.1; omega, HB1.out.2⟩, hid ⟨by have := HEV.out.1; simpa using this, by have := HEV.out.2; simp at this ⊢; omega⟩, by have := HO.out; exact hid (by simpa using this), HC⟩
                  case measure => have := HL0.out; simp [intOf]; omega
                · have hmn : (m : Int) < (n : Int) := by have h1 := HAR.out; have h2 := HM.out; omega
                  have HR0 := hid (show 0 < R.length by omega)
                  clear hR
                  go_wp2_with fail
                  refine (symMerge_any (B1.length + R.length) Ds.flatten B1 R [] r g a m n n c wr (Nat.le_refl _) (by have := HO.out; simpa using this) (by have := one1_ev HU.out HEV.out.1; simpa using this) (by have := HEV.out.2; simp at this ⊢; omega)
                    HD.out.1.symm (by rw [HB1.out.1]; exact HM.out) (by have := HM.out; have := HAR.out; omega) (by rw [HB1.out.1]; exact hbs0) HR0.out hlim HB1.out.2 HRR.out.2).mono ?_
                  rintro e1 w1 ⟨rfl, ho1, hc1⟩
                  rw [List.append_nil] at ho1
                  have HO1 := hid ho1
                  have HC1 := hid (HC.out.trans hc1 (fun _ _ h => h))
                  clear ho1 hc1
                  go_wp2_with fail
                  go_roundw
                  case rel => exact ⟨2 * bs, Ds, srt KR (B1 ++ R), by go_num, by omega, by omega, hid ⟨HD.out.2.1, by have h1 := HB1.out.1; have h2 := HRR.out.1; rw [srt_len, List.length_append]; omega, sd_srt _⟩,
                    hid ⟨((Ev.rfl' Ds.flatten).app (ev_srt (B1 ++ R))).trans (by have := HEV.out.1; simpa using this), by have := HEV.out.2; simp [srt_len] at this ⊢; omega⟩, HO1, HC1⟩
                  case measure => have := HL0.out; simp [intOf]; omega
        · have hlt2 : ¬ (bs : Int) < (n : Int) := by omega
          have hfin : Bs.flatten ++ R = srt KR l := by
            have hl := HEV.out.2
            rw [List.length_append, HB.out.1.len] at hl
            refine srt_of ?_ HEV.out.1
            cases Bs with
            | nil => simpa using HB.out.2.2
            | cons B Bs =>
              have h1 : Bs.length = 0 := by
                rcases Nat.eq_zero_or_pos Bs.length with h | h
                · exact h
                · exfalso
                  have : 2 * bs ≤ (B :: Bs).length * bs := Nat.mul_le_mul_right _ (by simp; omega)
                  omega
              have h2 : Bs = [] := List.eq_nil_of_length_eq_zero h1
              subst h2
              have h3 : R = [] := List.eq_nil_of_length_eq_zero (by simp at hl; omega)
              subst h3
              simpa using (HB.out.1 B (List.mem_cons_self ..)).2
          go_wp2_with fail
          go_end0
          exact ⟨rfl, by rw [← hfin]; exact HO.out, HC.out⟩
end Go.Proofs.Ytkhdadbbgfjcgaa
