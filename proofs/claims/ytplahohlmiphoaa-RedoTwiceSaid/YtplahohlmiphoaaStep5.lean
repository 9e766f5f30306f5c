/- redo.finish: pages are written home, the log is forgotten. -/
import Derived.Test.YtplahohlmiphoaaStep4
namespace Go.Proofs.Ytplahohlmiphoaa
open Go.RowKit
set_option linter.unusedVariables false

/-- pages that came in: places and bytes, far from a disk's blocks -/
def IsPuts (w : World) (fp : Nat → Prop) (a : Option Addr) (ls : List (Int × List UInt8)) : Prop :=
  ∀ i, i < ls.length → ∃ ab ao q p c, a = some ⟨ab, ao, none⟩ ∧ ls[i]? = some q ∧ w.cell? ⟨ab, ao + i * 2, none⟩ = some (.int .i64 q.1) ∧ w.cell? ⟨ab, ao + i * 2 + 1, none⟩ = some (.slice p q.2.length c) ∧ Far w fp (.slice p q.2.length c) q.2

def homeSteps (ls : List (Int × List UInt8)) : List Stp := ls.map fun q => .write q.1 q.2
def finSteps (ls : List (Int × List UInt8)) : List Stp := homeSteps ls ++ [.sync, .write 0 [], .sync]

theorem infoFn : (Try.prog.info? 45).map (fun i => (i.zero, i.size, i.bytes)) = some (some .nilFunc, 1, 8) := by kernel_rfl

theorem wp_keep {p : Prop} (h : Hid p) : p := h.out

def Own (fp : Nat → Prop) (v : Value) : Nat → Prop := fun k => fp k ∨ v.ownBlock = some k

/-- the steps that were made so far -/
def FinAt (W : Nat) (d : Nat) (fp : Nat → Prop) (sts : List Stp) (w wr : World) (v : Value) : Prop :=
  ∃ xs : List Value, xs.length = sts.length ∧ wr.ownsRow W 45 1 v sts.length xs ∧ (∀ u ∈ xs, u.oneCell' = true) ∧ (∀ (i : Nat) (u : Value) (st : Stp), xs[i]? = some u → sts[i]? = some st → IsStp wr d (Own fp v) u st) ∧ Below W w wr ∧ W ≤ wr.heap.size

theorem IsStp.weak {w : World} {d : Nat} {fp fp' : Nat → Prop} {v : Value} {st : Stp} (h : IsStp w d fp' v st) (hf : ∀ k, fp k → fp' k) : IsStp w d fp v st := by
  cases st with
  | sync => exact h
  | write at_ l =>
    obtain ⟨g0, g1, g2, g3, va, vb, la, lb, h1, c0, c1, c2, c3, f1, f2, h2, h3, n0, n1, n2, n3⟩ := h
    exact ⟨g0, g1, g2, g3, va, vb, la, lb, h1, c0, c1, c2, c3, ⟨f1.1, fun hz g hg hh => f1.2 hz g hg (hf g hh)⟩, ⟨f2.1, fun hz g hg hh => f2.2 hz g hg (hf g hh)⟩, h2, h3, fun h => n0 (hf _ h), fun h => n1 (hf _ h), fun h => n2 (hf _ h), fun h => n3 (hf _ h)⟩

set_option maxRecDepth 100000 in
set_option maxHeartbeats 4000000 in
theorem finish_any (w : World) (d : Nat) (fp : Nat → Prop) (n : Nat) (s : DS) (a : Option Addr) (c : Nat) (ls : List (Int × List UInt8)) (h : Dsk w d fp n s) (hp : IsPuts w fp a ls) (hl : ls.length ≤ 400) (hb : ∀ q ∈ ls, q.2.length ≤ 600) (ho : s.ops + 1000 ≤ 1000000) :
    Calls Try.prog 37 #[.pointer (some ⟨d, 0, none⟩), .slice a ls.length c] w fun e w' => e = .returned (.int .i64 (runStps n s (finSteps ls)).2) ∧ DskTo w d fp n (runStps n s (finSteps ls)).1 w' := by
  have H := hid h
  have HP := hid hp
  have HB := hid hb
  have hmf : ∀ (fn : Fn) (first cap : Array Value) (w : World), (Instr.makeFunc fn first cap).run Try.prog w = .ok (.func fn first cap) w := fun fn first cap w => by simp [Instr.makeFunc]
  clear h hp hb
  go_enter Try.func37, Try.ntmps37
  go_wp2_with fail
  have F0 : Hid (FinAt w.heap.size d fp (homeSteps (ls.take 0)) w w (.slice none 0 0)) := hid ⟨[], rfl, World.ownsRow_nil _ _ _ _, by simp, by simp, Below.refl _ _, Nat.le_refl _⟩
  go_loopw [5, 10] (fun v i wr => ∃ j : Nat, j ≤ ls.length ∧ i = .int .i64 j ∧ FinAt w.heap.size d fp (homeSteps (ls.take j)) w wr v) (fun _ i _ => ls.length + 1 - (intOf i).toNat)
  case atStart => exact ⟨0, Nat.zero_le _, rfl, F0.out⟩
  case round =>
    obtain ⟨j, hj, rfl, hfin⟩ := hrel
    have F1 := hid hfin
    clear hfin F0
    by_cases hlt : j < ls.length
    · obtain ⟨ab, ao, q, p, pc, rfl, hq, k0, k1, hfar⟩ := HP.out j hlt
      obtain ⟨xs, hxl, hown, hone, hst, hbel, hsz⟩ := F1.out
      have hab : ab < w.heap.size := World.block_lt_of_cell? w ⟨ab, ao + j * 2, none⟩ k0
      have k0' : wr.cell? ⟨ab, ao + j * 2, none⟩ = some (.int .i64 q.1) := (hbel.cell (p := ⟨ab, ao + j * 2, none⟩) hab).trans k0
      have k1' : wr.cell? ⟨ab, ao + j * 2 + 1, none⟩ = some (.slice p q.2.length pc) := (hbel.cell (p := ⟨ab, ao + j * 2 + 1, none⟩) hab).trans k1
      have hlen : (homeSteps (ls.take j)).length = j := by simp [homeSteps]; omega
      rw [hlen] at hown hxl
      obtain ⟨sp, sc, rfl⟩ : ∃ p c, u5 = Value.slice p j c := by
        rcases hown.2 with ⟨h5, h6⟩ | ⟨g, cap, cur, h5, _⟩
        · exact ⟨none, 0, by rw [h5, h6]⟩
        · exact ⟨_, _, h5⟩
      have HLEN := hid hlen
      have HXL := hid hxl
      clear hlen hxl
      have HOWN := hid hown
      have HONE := hid hone
      have HST := hid hst
      have HBEL := hid hbel
      have hfar2 : Far wr (Own fp (.slice sp j sc)) (.slice p q.2.length pc) q.2 := ⟨(hfar.chg (Chg.new hbel fp) (fun k h => .inl h)).1, fun hz g hg ho => by
        have hgl := Rd.lt hfar.1 hz (by decide) g hg
        rcases ho with ho | ho
        · exact hfar.2 hz g hg ho
        · have := (hown.lt g ho).1; omega⟩
      have HFAR := hid hfar2
      have HOL := hid hown.lt
      have HQ := hid hq
      have hql : q.2.length ≤ 600 := HB.out q (List.mem_of_getElem? hq)
      have HFP := hid H.out.lt
      clear hown hone hst hbel hfar hq k0 k1 hab F1
      go_wp2_with fail
      have hba : Below wr.heap.size wr (wr.alloc (Obj.cells #[.int .i64 q.1, .slice p q.2.length pc] 28)) := (Below.refl _ _).alloc (Nat.le_refl _) _
      generalize wr.alloc (Obj.cells #[.int .i64 q.1, .slice p q.2.length pc] 28) = wa at hba ⊢
      have BA := hid hba
      clear hba
      have hfpa : ∀ k, Own fp (.slice sp j sc) k → k < wa.heap.size := fun k hk => by
        rcases hk with hk | hk
        · exact Nat.lt_of_lt_of_le (HFP.out k hk) (Nat.le_trans HBEL.out.size BA.out.size)
        · exact Nat.lt_of_lt_of_le (HOL.out k hk).2 BA.out.size
      refine (mkwr_any wa d (Own fp (.slice sp j sc)) q.1 (.slice none 0 0) (.slice p q.2.length pc) [] q.2 ⟨Rd.nil _ _, fun h => by simp at h⟩ (HFAR.out.chg (Chg.new BA.out _) (fun k h => .inl h)) (by simp; omega) hfpa).mono ?_
      rintro e1 w5 ⟨vf, rfl, hvf1, hvf, hb5⟩
      have B5 := hid (BA.out.trans (hb5.mono BA.out.size))
      obtain ⟨g0, g1, g2, g3, hvv⟩ : ∃ g0 g1 g2 g3, vf = .func (.func 56) #[] #[.pointer (some ⟨g0, 0, none⟩), .pointer (some ⟨g1, 0, none⟩), .pointer (some ⟨g2, 0, none⟩), .pointer (some ⟨g3, 0, none⟩)] := by
        obtain ⟨g0, g1, g2, g3, _, _, _, _, h, _⟩ := hvf
        exact ⟨g0, g1, g2, g3, h⟩
      have VF := hid hvf
      clear hvf hb5 hfpa
      subst hvv
      have O5 := hid (own_chg HOWN.out (Chg.new B5.out NoFp) (fun _ _ h => h))
      have BW5 := hid (HBEL.out.trans (B5.out.mono HBEL.out.size))
      have S5 : Hid (w.heap.size ≤ w5.heap.size) := hid BW5.out.size
      have HN : Hid (homeSteps (ls.take (j + 1)) = homeSteps (ls.take j) ++ [.write q.1 q.2]) := hid (by unfold homeSteps; rw [List.take_add_one, HQ.out]; simp)
      have hone1 : ∀ u ∈ [Value.func (.func 56) #[] #[.pointer (some ⟨g0, 0, none⟩), .pointer (some ⟨g1, 0, none⟩), .pointer (some ⟨g2, 0, none⟩), .pointer (some ⟨g3, 0, none⟩)]], u.oneCell' = true := fun u hu => by
        rw [List.mem_singleton] at hu
        rw [hu]; exact hvf1
      have HONE1 := hid hone1
      have hbase : w.heap.size ≤ (w5.alloc (Obj.cells #[.func (.func 56) #[] #[.pointer (some ⟨g0, 0, none⟩), .pointer (some ⟨g1, 0, none⟩), .pointer (some ⟨g2, 0, none⟩), .pointer (some ⟨g3, 0, none⟩)]] 45)).heap.size := by
        have := S5.out
        simp
        omega
      have HBASE := hid hbase
      clear hone1 hbase
      have hm1 : j + 1 ≤ maxLen := by simp only [maxLen]; omega
      have HM1 := hid hm1
      have hm8 : (j + 1) * 8 ≤ 140737488355328 := by omega
      have HM8 := hid hm8
      clear hm1 hm8
      have O6 := hid (O5.out.alloc (Obj.cells #[.func (.func 56) #[] #[.pointer (some ⟨g0, 0, none⟩), .pointer (some ⟨g1, 0, none⟩), .pointer (some ⟨g2, 0, none⟩), .pointer (some ⟨g3, 0, none⟩)]] 45))
      go_wp2_with (at_builtin; refine wp_keep ?_)
      refine hid ?_
      refine wpList_append_rd rfl _ _ 69 rfl w.heap.size 45 _ 1 8 Try.underlying69 infoFn rfl (by decide) (.slice sp j sc) j xs rfl O6.out (.slice (some ⟨w5.heap.size, 0, none⟩) 1 1) 1 [.func (.func 56) #[] #[.pointer (some ⟨g0, 0, none⟩), .pointer (some ⟨g1, 0, none⟩), .pointer (some ⟨g2, 0, none⟩), .pointer (some ⟨g3, 0, none⟩)]] rfl (Rd.fresh1 w5 (.func (.func 56) #[] #[.pointer (some ⟨g0, 0, none⟩), .pointer (some ⟨g1, 0, none⟩), .pointer (some ⟨g2, 0, none⟩), .pointer (some ⟨g3, 0, none⟩)]) 45) HONE1.out HM1.out HM8.out HBASE.out ?_
      intro pp cc w7 hown7 hg7 hb7
      have HO7 := hid hown7
      have HG7 := hid hg7
      have HB7 := hid hb7
      clear hown7 hg7 hb7
      go_wp2_with fail
      go_roundw
      case rel =>
        refine ⟨j + 1, by omega, by go_num, ?_⟩
        rw [HN.out]
        have hsub : ∀ k, Own fp (.slice pp (j + 1) cc) k → Own fp (.slice sp j sc) k ∨ (w5.alloc (Obj.cells #[.func (.func 56) #[] #[.pointer (some ⟨g0, 0, none⟩), .pointer (some ⟨g1, 0, none⟩), .pointer (some ⟨g2, 0, none⟩), .pointer (some ⟨g3, 0, none⟩)]] 45)).heap.size ≤ k := fun k hk => by
          rcases hk with hk | hk
          · exact .inl (.inl hk)
          · rcases HB7.out with h8 | h8
            · exact .inl (.inr (by rw [← h8]; exact hk))
            · rw [h8] at hk
              injection hk with hk
              exact .inr (by omega)
        have hchg : Chg (Own fp (.slice sp j sc)) (w5.alloc (Obj.cells #[.func (.func 56) #[] #[.pointer (some ⟨g0, 0, none⟩), .pointer (some ⟨g1, 0, none⟩), .pointer (some ⟨g2, 0, none⟩), .pointer (some ⟨g3, 0, none⟩)]] 45)) w7 := (Chg.grown HG7.out).mono (fun k _ h => .inr h)
        have mv : ∀ {u : Value} {st : Stp}, IsStp w5 d (Own fp (.slice sp j sc)) u st → IsStp w7 d (Own fp (.slice pp (j + 1) cc)) u st := fun {u st} h =>
          (h.chg (Chg.alloc _ _ _) (fun k h => .inl h)).chg hchg hsub
        refine ⟨xs ++ [.func (.func 56) #[] #[.pointer (some ⟨g0, 0, none⟩), .pointer (some ⟨g1, 0, none⟩), .pointer (some ⟨g2, 0, none⟩), .pointer (some ⟨g3, 0, none⟩)]], ?_, ?_, ?_, ?_, ?_, ?_⟩
        · rw [List.length_append, List.length_append, HXL.out, HLEN.out]; rfl
        · rw [List.length_append, HLEN.out]; exact HO7.out
        · intro u hu
          rcases List.mem_append.1 hu with h8 | h8
          · exact HONE.out u h8
          · exact HONE1.out u h8
        · intro i u st h8 h9
          rcases Nat.lt_or_ge i j with hij | hij
          · rw [List.getElem?_append_left (by rw [HXL.out]; exact hij)] at h8
            rw [List.getElem?_append_left (by rw [HLEN.out]; exact hij)] at h9
            exact mv ((HST.out i u st h8 h9).chg (Chg.new B5.out _) (fun k h => .inl h))
          · rw [List.getElem?_append_right (by rw [HXL.out]; exact hij), HXL.out] at h8
            rw [List.getElem?_append_right (by rw [HLEN.out]; exact hij), HLEN.out] at h9
            have hi0 : i - j = 0 := by
              rcases Nat.eq_zero_or_pos (i - j) with h | h
              · exact h
              · rw [List.getElem?_eq_none (by simp; omega)] at h8; cases h8
            rw [hi0] at h8 h9
            simp at h8 h9
            subst h8 h9
            exact mv VF.out
        · exact (BW5.out.alloc S5.out _).grown HG7.out HBASE.out (fun k hk => (HOL.out k hk).1)
        · exact Nat.le_trans HBASE.out HG7.out.size
      case measure => simp [intOf]; omega
    · obtain rfl : j = ls.length := by omega
      rw [List.take_length] at F1
      obtain ⟨xs, hxl, hown, hone, hst, hbel, hsz⟩ := F1.out
      have hlen : (homeSteps ls).length = ls.length := by simp [homeSteps]
      rw [hlen] at hown hxl
      obtain ⟨sp, sc, rfl⟩ : ∃ p c, u5 = Value.slice p ls.length c := by
        rcases hown.2 with ⟨h5, h6⟩ | ⟨g, cap, cur, h5, _⟩
        · exact ⟨none, 0, by rw [h5, h6]⟩
        · exact ⟨_, _, h5⟩
      have HLEN := hid hlen
      have HXL := hid hxl
      have HOWN := hid hown
      have HONE := hid hone
      have HST := hid hst
      have HBEL := hid hbel
      have HFP := hid H.out.lt
      clear hown hone hst hbel hlen hxl F1
      have hfpa : ∀ k, Own fp (.slice sp ls.length sc) k → k < wr.heap.size := fun k hk => by
        rcases hk with hk | hk
        · exact Nat.lt_of_lt_of_le (HFP.out k hk) HBEL.out.size
        · exact (HOWN.out.lt k hk).2
      have HFA := hid hfpa
      clear hfpa
      go_wp2_with fail
      refine (mkwr_any wr d (Own fp (.slice sp ls.length sc)) 0 (.slice none 0 0) (.slice none 0 0) [] [] ⟨Rd.nil _ _, fun h => by simp at h⟩ ⟨Rd.nil _ _, fun h => by simp at h⟩ (by simp) HFA.out).mono ?_
      rintro e1 w5 ⟨vf, rfl, hvf1, hvf, hb5⟩
      obtain ⟨g0, g1, g2, g3, hvv⟩ : ∃ g0 g1 g2 g3, vf = .func (.func 56) #[] #[.pointer (some ⟨g0, 0, none⟩), .pointer (some ⟨g1, 0, none⟩), .pointer (some ⟨g2, 0, none⟩), .pointer (some ⟨g3, 0, none⟩)] := by
        obtain ⟨g0, g1, g2, g3, _, _, _, _, h, _⟩ := hvf
        exact ⟨g0, g1, g2, g3, h⟩
      have VF := hid hvf
      have B5 := hid hb5
      clear hvf hb5
      subst hvv
      have O5 := hid (own_chg HOWN.out (Chg.new B5.out NoFp) (fun _ _ h => h))
      have BW5 := hid (HBEL.out.trans (B5.out.mono HBEL.out.size))
      have S5 : Hid (w.heap.size ≤ w5.heap.size) := hid BW5.out.size
      have HONE1 : Hid (∀ u ∈ [Value.func (.func 21) #[.pointer (some ⟨d, 0, none⟩)] #[], .func (.func 56) #[] #[.pointer (some ⟨g0, 0, none⟩), .pointer (some ⟨g1, 0, none⟩), .pointer (some ⟨g2, 0, none⟩), .pointer (some ⟨g3, 0, none⟩)], .func (.func 21) #[.pointer (some ⟨d, 0, none⟩)] #[]], u.oneCell' = true) := hid (fun u hu => by
        simp only [List.mem_cons, List.not_mem_nil, or_false] at hu
        rcases hu with h | h | h <;> subst h <;> rfl)
      have HBASE : Hid (w.heap.size ≤ (w5.alloc (Obj.cells #[.func (.func 21) #[.pointer (some ⟨d, 0, none⟩)] #[], .func (.func 56) #[] #[.pointer (some ⟨g0, 0, none⟩), .pointer (some ⟨g1, 0, none⟩), .pointer (some ⟨g2, 0, none⟩), .pointer (some ⟨g3, 0, none⟩)], .func (.func 21) #[.pointer (some ⟨d, 0, none⟩)] #[]] 45)).heap.size) := hid (by have := S5.out; simp; omega)
      have HM1 : Hid (ls.length + 3 ≤ maxLen) := hid (by simp only [maxLen]; omega)
      have HM8 : Hid ((ls.length + 3) * 8 ≤ 140737488355328) := hid (by omega)
      have O6 := hid (O5.out.alloc (Obj.cells #[.func (.func 21) #[.pointer (some ⟨d, 0, none⟩)] #[], .func (.func 56) #[] #[.pointer (some ⟨g0, 0, none⟩), .pointer (some ⟨g1, 0, none⟩), .pointer (some ⟨g2, 0, none⟩), .pointer (some ⟨g3, 0, none⟩)], .func (.func 21) #[.pointer (some ⟨d, 0, none⟩)] #[]] 45))
      go_wp2_with (at_builtin; refine wp_keep ?_)
      refine hid ?_
      refine wpList_append_rd rfl _ _ 69 rfl w.heap.size 45 _ 1 8 Try.underlying69 infoFn rfl (by decide) (.slice sp ls.length sc) ls.length xs rfl O6.out (.slice (some ⟨w5.heap.size, 0, none⟩) 3 3) 3 [Value.func (.func 21) #[.pointer (some ⟨d, 0, none⟩)] #[], .func (.func 56) #[] #[.pointer (some ⟨g0, 0, none⟩), .pointer (some ⟨g1, 0, none⟩), .pointer (some ⟨g2, 0, none⟩), .pointer (some ⟨g3, 0, none⟩)], .func (.func 21) #[.pointer (some ⟨d, 0, none⟩)] #[]] rfl (Rd.fresh w5 [Value.func (.func 21) #[.pointer (some ⟨d, 0, none⟩)] #[], .func (.func 56) #[] #[.pointer (some ⟨g0, 0, none⟩), .pointer (some ⟨g1, 0, none⟩), .pointer (some ⟨g2, 0, none⟩), .pointer (some ⟨g3, 0, none⟩)], .func (.func 21) #[.pointer (some ⟨d, 0, none⟩)] #[]] 45 (by simp [maxLen])) HONE1.out HM1.out HM8.out HBASE.out ?_
      intro pp cc w7 hown7 hg7 hb7
      have HO7 := hid hown7
      have HG7 := hid hg7
      have HB7 := hid hb7
      clear hown7 hg7 hb7
      have hsub : ∀ k, Own fp (.slice pp (ls.length + 3) cc) k → Own fp (.slice sp ls.length sc) k ∨ (w5.alloc (Obj.cells #[.func (.func 21) #[.pointer (some ⟨d, 0, none⟩)] #[], .func (.func 56) #[] #[.pointer (some ⟨g0, 0, none⟩), .pointer (some ⟨g1, 0, none⟩), .pointer (some ⟨g2, 0, none⟩), .pointer (some ⟨g3, 0, none⟩)], .func (.func 21) #[.pointer (some ⟨d, 0, none⟩)] #[]] 45)).heap.size ≤ k := fun k hk => by
        rcases hk with hk | hk
        · exact .inl (.inl hk)
        · rcases HB7.out with h8 | h8
          · exact .inl (.inr (by rw [← h8]; exact hk))
          · rw [h8] at hk
            injection hk with hk
            exact .inr (by omega)
      have hchg : Chg (Own fp (.slice sp ls.length sc)) (w5.alloc (Obj.cells #[.func (.func 21) #[.pointer (some ⟨d, 0, none⟩)] #[], .func (.func 56) #[] #[.pointer (some ⟨g0, 0, none⟩), .pointer (some ⟨g1, 0, none⟩), .pointer (some ⟨g2, 0, none⟩), .pointer (some ⟨g3, 0, none⟩)], .func (.func 21) #[.pointer (some ⟨d, 0, none⟩)] #[]] 45)) w7 := (Chg.grown HG7.out).mono (fun k _ h => .inr h)
      have mv : ∀ {u : Value} {st : Stp}, IsStp w5 d (Own fp (.slice sp ls.length sc)) u st → IsStp w7 d fp u st := fun {u st} h =>
        ((h.chg (Chg.alloc _ _ _) (fun k h => .inl h)).chg hchg hsub).weak (fun k h => .inl h)
      have hfl : (finSteps ls).length = ls.length + 3 := by unfold finSteps; rw [List.length_append, HLEN.out]; rfl
      have hall : IsAll w7 d fp pp (finSteps ls) := fun i hi => by
        rw [hfl] at hi
        obtain ⟨g, rfl⟩ : ∃ g, pp = some ⟨g, 0, none⟩ := by
          rcases HO7.out.2 with ⟨_, h6⟩ | ⟨g, cap, cur, h5, _⟩
          · omega
          · injection h5 with h5 _ _
            exact ⟨g, h5⟩
        have hcells := HO7.out.cells (g := g) rfl
        have hgb := HO7.out.lt g rfl
        have hng : ¬ fp g := fun hh => by have := HFP.out g hh; omega
        have hat : ∀ u, (xs ++ [Value.func (.func 21) #[.pointer (some ⟨d, 0, none⟩)] #[], .func (.func 56) #[] #[.pointer (some ⟨g0, 0, none⟩), .pointer (some ⟨g1, 0, none⟩), .pointer (some ⟨g2, 0, none⟩), .pointer (some ⟨g3, 0, none⟩)], .func (.func 21) #[.pointer (some ⟨d, 0, none⟩)] #[]])[i]? = some u → w7.cell? ⟨g, 0 + i, none⟩ = some u := fun u hu => by
          have h9 := hcells i u hu
          rw [Addr.add_off _ rfl] at h9
          exact h9
        rcases Nat.lt_or_ge i ls.length with hij | hij
        · have hx : xs[i]? = some (xs[i]'(by rw [HXL.out]; exact hij)) := List.getElem?_eq_getElem _
          have hs : (homeSteps ls)[i]? = some ((homeSteps ls)[i]'(by rw [HLEN.out]; exact hij)) := List.getElem?_eq_getElem _
          refine ⟨g, 0, _, _, rfl, ?_, hat _ (by rw [List.getElem?_append_left (by rw [HXL.out]; exact hij)]; exact hx), hng, mv ((HST.out i _ _ hx hs).chg (Chg.new B5.out _) (fun k h => .inl h))⟩
          unfold finSteps
          rw [List.getElem?_append_left (by rw [HLEN.out]; exact hij)]
          exact hs
        · have hx : ∀ u, [Value.func (.func 21) #[.pointer (some ⟨d, 0, none⟩)] #[], .func (.func 56) #[] #[.pointer (some ⟨g0, 0, none⟩), .pointer (some ⟨g1, 0, none⟩), .pointer (some ⟨g2, 0, none⟩), .pointer (some ⟨g3, 0, none⟩)], .func (.func 21) #[.pointer (some ⟨d, 0, none⟩)] #[]][i - ls.length]? = some u → (xs ++ [Value.func (.func 21) #[.pointer (some ⟨d, 0, none⟩)] #[], .func (.func 56) #[] #[.pointer (some ⟨g0, 0, none⟩), .pointer (some ⟨g1, 0, none⟩), .pointer (some ⟨g2, 0, none⟩), .pointer (some ⟨g3, 0, none⟩)], .func (.func 21) #[.pointer (some ⟨d, 0, none⟩)] #[]])[i]? = some u := fun u hu => by
            rw [List.getElem?_append_right (by rw [HXL.out]; exact hij), HXL.out]; exact hu
          have hs : ∀ st, [Stp.sync, .write 0 [], .sync][i - ls.length]? = some st → (finSteps ls)[i]? = some st := fun st hu => by
            unfold finSteps
            rw [List.getElem?_append_right (by rw [HLEN.out]; exact hij), HLEN.out]; exact hu
          rcases (show i - ls.length = 0 ∨ i - ls.length = 1 ∨ i - ls.length = 2 by omega) with h | h | h
          · exact ⟨g, 0, _, .sync, rfl, hs _ (by rw [h]; rfl), hat _ (hx _ (by rw [h]; rfl)), hng, rfl⟩
          · exact ⟨g, 0, _, .write 0 [], rfl, hs _ (by rw [h]; rfl), hat _ (hx _ (by rw [h]; rfl)), hng, mv VF.out⟩
          · exact ⟨g, 0, _, .sync, rfl, hs _ (by rw [h]; rfl), hat _ (hx _ (by rw [h]; rfl)), hng, rfl⟩
      have hb7 : Below w.heap.size w w7 := (BW5.out.alloc S5.out _).grown HG7.out HBASE.out (fun k hk => (HOWN.out.lt k hk).1)
      have HALL := hid hall
      have BB7 := hid hb7
      have HFL := hid hfl
      clear hsub hchg mv hall hb7 hfl
      go_wp2_with fail
      refine (all_any w7 d fp n s pp (ls.length + 3) cc (finSteps ls) (H.out.chg (Chg.new BB7.out NoFp) (fun _ _ h => h)) HFL.out.symm (by omega) HALL.out ho).mono ?_
      rintro e1 w8 ⟨rfl, hto⟩
      have T8 := hid (DskTo.trans (Chg.new BB7.out fp) (fun k h => .inl h) hto)
      clear hto
      go_wp2_with fail
      go_ret
      exact ⟨rfl, T8.out⟩
end Go.Proofs.Ytplahohlmiphoaa
