/- triadlaw4.PagerTurns: the walk. -/
import Derived.Test.YtiphekepglihlaaTurns
namespace Go.Proofs.Ytiphekepglihlaa
open Go.RowKit Go.Maps
set_option linter.unusedVariables false

theorem intInfo : (Try.prog.info? 3).map (fun i => (i.zero, i.size, i.bytes)) = some (some (.int .i64 0), 1, 8) := by kernel_rfl

set_option maxRecDepth 100000 in
set_option maxHeartbeats 4000000 in
theorem pagerTurns_walk (a0 : Int) (a1 : Option Addr) (len1 cap1 : Nat) (z1 : List Int) (w : World) (w0 : (Lit.int .i64 a0).wf = true) (w1 : IsRow .i64 w a1 len1 cap1 z1) :
    Calls Try.prog 4 #[.int .i64 a0, .slice a1 len1 cap1] w fun e w' => e = .returned (.bool true) ∧ Below w.heap.size w w' := by
  have R := hid w1
  have hlm : len1 ≤ maxLen := by
    rcases w1 with ⟨_, rfl, _⟩ | ⟨_, _, h1, h2, _⟩
    · exact Nat.zero_le _
    · omega
  have hm0 : 0 ≤ a0 % 8 := Int.emod_nonneg _ (by omega)
  have hm1 : a0 % 8 < 8 := Int.emod_lt_of_pos _ (by omega)
  have WI := hid (fun w => within_any w a0 8 (by omega) (by omega))
  obtain ⟨n, hn⟩ : ∃ n : Nat, 1 + a0 % 8 = (n : Int) := ⟨(1 + a0 % 8).toNat, by omega⟩
  have hn0 : 1 ≤ n := by omega
  have hn8 : n ≤ 8 := by omega
  have hw1 : IntKind.i64.wrap (1 + a0 % 8) = (n : Int) := by rw [hn]; exact i64_small (by omega) (by omega)
  clear w0 w1 hm0 hm1 hn
  go_enter Try.func4, Try.ntmps4
  go_wp2_with fail
  refine (known4_any _).mono ?_
  rintro e1 w1 ⟨rfl, hb⟩
  have B1 := hid hb
  clear hb
  go_wp2_with fail
  refine (WI.out _).mono ?_
  rintro e2 wx ⟨rfl, hw⟩
  subst hw
  generalize a0 % 8 = M at *
  clear WI
  go_wp2_with fail
  refine (dNew_any _ 420).mono ?_
  rintro e2 w2 ⟨d, rfl, hd2, hb2, hd⟩
  rw [show clampN 420 = 420 from rfl] at hd2
  have D2 := hid hd2
  have B2 := hid (B1.out.trans (hb2.mono B1.out.size))
  have hfp : Hid (∀ k, wx.heap.size ≤ k ∧ k < w2.heap.size → w.heap.size ≤ k) := hid (fun k hk => Nat.le_trans B1.out.size hk.1)
  clear hd2 hb2
  go_wp2_with fail
  refine (openW B2.out 420 (by omega) (by omega) d _ D2.out hfp.out).mono ?_
  rintro e3 w3 ⟨p, rfl, hv⟩
  have V3 := hid hv
  clear hv D2
  go_wp2_with fail
  refine V3.out.begin.mono ?_
  rintro e4 w4 ⟨rfl, hv⟩
  have V4 := hid hv
  clear hv V3
  go_wp2_with fail
  go_loopw [7] (fun i wr => ∃ j : Nat, j ≤ n ∧ i = .int .i64 ((j : Int) + 1) ∧ PgW w wr p d 420 (dNew 420) as0 (goneA j []) true (1 + j)) (fun i _ => n + 2 - (intOf i).toNat)
  case atStart => exact ⟨0, Nat.zero_le _, rfl, by rw [goneA_zero]; exact V4.out⟩
  case round =>
    obtain ⟨j, hj, rfl, hv⟩ := hrel
    have V5 := hid hv
    clear hv V4
    have hwj : IntKind.i64.wrap ((j : Int) + 1 + 1) = (j : Int) + 1 + 1 := i64_small (by omega) (by omega)
    by_cases hlt : (j : Int) + 1 ≤ n
    · go_wp2_with fail
      refine (V5.out.new (by omega)).mono ?_
      rw [goneA_more (by omega)]
      rintro e5 w5 ⟨rfl, hv⟩
      have V6 := hid hv
      clear hv V5
      go_wp2_with fail
      go_roundw
      case rel => exact ⟨j + 1, by omega, by push_cast; rfl, by rw [Nat.add_comm 1 (j + 1)]; rw [Nat.add_comm 1 j] at V6; exact V6.out⟩
      case measure => simp [intOf]; omega
    · have hjn : n = j := by omega
      subst hjn
      have T0 := hid (TurnAt.start V5.out)
      clear V5
      go_wp2_with fail
      go_loopw [10, 11] (fun v i wr => ∃ (j : Nat) (G : List Int), j ≤ len1 ∧ j ≤ 8 ∧ G.length ≤ j ∧ G.Nodup ∧ (∀ g ∈ G, 1 ≤ g ∧ g ≤ (n : Int)) ∧ i = .int .i64 j ∧ TurnAt w wr p d (goneA n G) G v (9 + j)) (fun _ i _ => len1 + 1 - (intOf i).toNat)
      case atStart =>
        obtain ⟨F, N', t1, t2, t3⟩ := T0.out
        exact ⟨0, [], Nat.zero_le _, Nat.zero_le _, Nat.zero_le _, List.nodup_nil, fun _ h => (by cases h), rfl, F, N', t1, by omega, t3⟩
      case round =>
        obtain ⟨j, G, hj, hj8, hGj, hnd, hGb, rfl, hT⟩ := hrel
        have T1 := hid hT
        have GB := hid hGb
        have ND := hid hnd
        obtain ⟨gp, gc, rfl⟩ := own_shape hT.own.1
        clear hT hGb hnd T0
        by_cases hlt : j < len1 ∧ j < 8
        · obtain ⟨hlt, hlt8⟩ := hlt
          obtain ⟨x, rfl, hz, hcell⟩ : ∃ x : Addr, a1 = some x ∧ j < z1.length ∧ wr.cell? (x.add j) = some (.int .i64 (z1.getD j 0)) := by
            rcases R.out with ⟨_, rfl, _⟩ | ⟨x, rfl, r1, r2, r3, r4, r5⟩
            · omega
            · exact ⟨x, rfl, by omega, (T1.out.own.2.cell (World.block_lt_of_cell? w _ (r4 j (by omega)))).trans (r4 j (by omega))⟩
          have WI := hid (within_any wr (z1.getD j 0) n (by omega) (by omega))
          have hm0 : 0 ≤ (z1.getD j 0) % (n : Int) := Int.emod_nonneg _ (by omega)
          have hm1 : (z1.getD j 0) % (n : Int) < n := Int.emod_lt_of_pos _ (by omega)
          generalize z1.getD j 0 = zz at *
          have hwk : IntKind.i64.wrap (1 + zz % (n : Int)) = 1 + zz % (n : Int) := i64_small (by omega) (by omega)
          go_wp2_with fail
          refine WI.out.mono ?_
          rintro e5 wy ⟨rfl, hw⟩
          subst hw
          go_wp2_with fail
          have hkb : 1 ≤ 1 + zz % (n : Int) ∧ 1 + zz % (n : Int) ≤ n := by omega
          generalize 1 + zz % (n : Int) = at_ at *
          clear WI hm0 hm1 hwk
          obtain ⟨wq, hwq⟩ : ∃ wq, wq = wy := ⟨_, rfl⟩
          subst hwq
          go_loopw [13, 14] (fun b i wx => ∃ k : Nat, k ≤ G.length ∧ b = .bool ((G.take k).any (fun g => g == at_)) ∧ i = .int .i64 k ∧ wx = wq) (fun _ i _ => G.length + 1 - (intOf i).toNat)
          case atStart => exact ⟨0, Nat.zero_le _, rfl, rfl, rfl⟩
          case round =>
            obtain ⟨k, hk, rfl, rfl, rfl⟩ := hrel
            by_cases hlt2 : k < G.length
            · obtain ⟨g0, hg0⟩ : ∃ g0, G[k]? = some g0 := ⟨_, List.getElem?_eq_getElem hlt2⟩
              obtain ⟨gb, goff, rfl, gcell⟩ := Rd.addr (Rd.of_own T1.out.own.1) (by omega)
              have hgc := gcell k (.int .i64 g0) (by rw [List.getElem?_map, hg0]; rfl)
              have hnx : Hid ((G.take (k + 1)).any (fun g => g == at_) = ((G.take k).any (fun g => g == at_) || (g0 == at_))) := hid (by
                rw [List.take_add_one, hg0, List.any_append]
                simp)
              clear gcell hg0
              generalize hA : (G.take k).any (fun g => g == at_) = A at *
              clear hA
              cases A with
              | true =>
                go_wp2_with fail
                go_roundw
                case rel => exact ⟨k + 1, by omega, by rw [hnx.out]; rfl, by go_num, (by first | exact rfl | exact trivial)⟩
                case measure => simp [intOf]; omega
              | false =>
                go_wp2_with fail
                go_roundw
                case rel => exact ⟨k + 1, by omega, by rw [hnx.out]; simp, by go_num, (by first | exact rfl | exact trivial)⟩
                case measure => simp [intOf]; omega
            · have hkG : k = G.length := by omega
              subst hkG
              rw [List.take_length]
              have hdr := hid (goneA_drop (n := n) (G := G) hkb)
              have DR := hid (T1.out.drop at_ (by omega))
              have hmem : Hid (G.any (fun g => g == at_) = true ↔ at_ ∈ G) := hid (by simp)
              generalize hA : G.any (fun g => g == at_) = A at *
              clear hA
              cases A with
              | true =>
                have hin : at_ ∈ G := hmem.out.1 rfl
                rw [hdr.out, if_pos hin] at DR
                clear hdr hmem hin
                go_wp2_with fail
                refine DR.out.mono ?_
                rintro e6 w6 ⟨rfl, hT⟩
                have T2 := hid hT
                clear hT DR
                go_wp2_with fail
                go_roundw
                case rel => exact ⟨j + 1, G, by omega, by omega, by omega, ND.out, GB.out, by go_num, T2.out⟩
                case measure => simp [intOf]; omega
              | false =>
                have hin : at_ ∉ G := fun h => by cases hmem.out.2 h
                rw [hdr.out, if_neg hin] at DR
                have hin' := hid hin
                clear hdr hmem hin
                go_wp2_with fail
                refine DR.out.mono ?_
                rintro e6 w6 ⟨rfl, hT⟩
                have T2 := hid hT
                clear hT DR
                have hbase : w.heap.size ≤ (w6.alloc (Obj.cells #[Value.int IntKind.i64 at_] 3)).heap.size := Nat.le_trans T2.out.own.2.size (by simp)
                go_wp2_with (at_builtin; refine wpList_append_rd rfl _ _ 28 rfl w.heap.size 3 _ 1 8 Try.underlying28 intInfo rfl (by decide) _ _ _ rfl (T2.out.own.1.alloc _) _ 1 _ rfl (Rd.fresh1 _ _ _) (by simp [Value.oneCell']) (by simp only [maxLen]; omega) (by omega) hbase ?_; intro pp cc w7 hown7 hg7 hb7; have T3 := hid (T2.out.app ((Below.refl _ _).alloc (Nat.le_refl _) _) hown7 hg7 hb7); clear hown7 hg7 hb7)
                go_roundw
                case rel => exact ⟨j + 1, G ++ [at_], by omega, by omega, by simp; omega, List.nodup_append.2 ⟨ND.out, (by simp), fun a ha b hb e => hin'.out (by rw [List.mem_singleton] at hb; rw [← hb, ← e]; exact ha)⟩, fun g hg => by
                  rcases List.mem_append.1 hg with h | h
                  · exact GB.out g h
                  · rw [List.mem_singleton] at h; rw [h]; exact hkb, by go_num, T3.out⟩
                case measure => simp [intOf]; omega
        · have hwg : IntKind.i64.wrap ((G.length : Int) - 1) = (G.length : Int) - 1 := i64_small (by omega) (by omega)
          have hgl : G.length ≤ 8 := by omega
          have TW := hid (show ∀ m : Nat, m = G.length → TurnAt w wr p d (goneA n (G.take m)) G (.slice gp G.length gc) (17 + (G.length - m)) from fun m hm => by
            obtain ⟨F, N', t1, t2, t3⟩ := T1.out
            rw [hm, List.take_length]
            exact ⟨F, N', t1, by omega, t3⟩)
          have hdis : ¬ (j : Int) < len1 ∨ ¬ (j : Int) < 8 := by omega
          clear T1
          rcases Decidable.em ((j : Int) < len1) with hq | hq
          case' inl => have hq8 : ¬ (j : Int) < 8 := hdis.resolve_left (fun h => h hq)
          all_goals
            clear hdis
            go_wp2_with fail
            go_loopw [16] (fun i wx => ∃ m : Nat, m ≤ G.length ∧ i = .int .i64 ((m : Int) - 1) ∧ TurnAt w wx p d (goneA n (G.take m)) G (.slice gp G.length gc) (17 + (G.length - m))) (fun i _ => (intOf i + 1).toNat)
            case atStart => exact ⟨G.length, Nat.le_refl _, rfl, TW.out _ rfl⟩
            case round =>
              obtain ⟨m, hm, rfl, hT⟩ := hrel
              have T5 := hid hT
              clear hT TW
              by_cases hm0 : m = 0
              · subst hm0
                rw [List.take_zero] at T5
                have hwn : IntKind.i64.wrap ((n : Int) + 1) = (n : Int) + 1 := i64_small (by omega) (by omega)
                go_wp2_with fail
                refine (T5.out.new (by omega)).mono ?_
                rw [goneA_more (by omega)]
                rintro e7 w7 ⟨rfl, hT⟩
                have T6 := hid hT
                clear hT T5
                go_wp2_with fail
                go_ret
                exact ⟨rfl, T6.out.own.2⟩
              · obtain ⟨m', rfl⟩ : ∃ m' : Nat, m = m' + 1 := ⟨m - 1, by omega⟩
                obtain ⟨g0, hg0⟩ : ∃ g0, G[m']? = some g0 := ⟨_, List.getElem?_eq_getElem (by omega)⟩
                have hmem : g0 ∈ G := List.mem_of_getElem? hg0
                have htk : G.take (m' + 1) = G.take m' ++ [g0] := by rw [List.take_add_one, hg0]; rfl
                have hnotin : g0 ∉ G.take m' := fun h => by
                  have h1 : (G.take (m' + 1)).Nodup := ND.out.sublist (List.take_sublist _ _)
                  rw [htk, List.nodup_append] at h1
                  exact h1.2.2 g0 h g0 (by simp) rfl
                have hNew := hid (T5.out.new (by omega))
                rw [htk, goneA_turn (GB.out g0 hmem) hnotin] at hNew
                have GO := hid (fun wx' (h : TurnAt w wx' p d (goneA n (G.take m')) G (.slice gp G.length gc) (17 + (G.length - (m' + 1)) + 1)) => Rd.addr (Rd.of_own h.own.1) (show 0 < G.length by omega))
                have hg1 : ((G.map (Value.int .i64))[m']? = some (.int .i64 g0)) := by rw [List.getElem?_map, hg0]; rfl
                have HG1 := hid hg1
                have hge : ((m' : Int) + 1 - 1 ≥ 0) := by omega
                have hmm : ((m' : Int) + 1 - 1) = m' := by omega
                have hwm : IntKind.i64.wrap ((m' : Int) - 1) = (m' : Int) - 1 := i64_small (by omega) (by omega)
                clear htk hnotin hmem hg0 hg1
                push_cast
                rw [hmm]
                go_wp2_with fail
                refine hNew.out.mono ?_
                rintro e7 w7 ⟨rfl, hT⟩
                obtain ⟨gb, goff, rfl, gcell⟩ := GO.out _ hT
                have hgc := gcell m' _ HG1.out
                have T6 := hid hT
                clear hT T5 gcell
                go_wp2_with fail
                go_roundw
                case rel =>
                  refine ⟨m', by omega, by go_num, ?_⟩
                  obtain ⟨F, N', t1, t2, t3⟩ := T6.out
                  exact ⟨F, N', t1, by omega, t3⟩
                case measure => simp [intOf]
end Go.Proofs.Ytiphekepglihlaa
