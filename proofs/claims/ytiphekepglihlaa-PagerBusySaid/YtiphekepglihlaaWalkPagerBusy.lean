/- triadlaw4.PagerBusy: the walk. -/
import Derived.Test.YtiphekepglihlaaPagQ
import Derived.Test.YtiphekepglihlaaArgs
namespace Go.Proofs.Ytiphekepglihlaa
open Go.RowKit Go.Maps
set_option linter.unusedVariables false

def as1 : AS := { as0 with ever := 1 }.set 1 (some (pad504 []))
theorem put_as1 {l : List UInt8} (h : l.length ≤ 504) : putO true as1 1 l = (0, as1.set 1 (some (pad504 l))) := by
  rw [show putO true as1 1 l = putA as1 1 l from if_neg (by simp)]
  unfold putA
  rw [if_pos (show (as1.B 1).isSome = true from rfl), if_neg (by omega)]

set_option maxRecDepth 100000 in
set_option maxHeartbeats 4000000 in
theorem pagerBusy_walk (a0 : Int) (a1 : Option Addr) (len1 cap1 : Nat) (z1 : List Int) (w : World) (w0 : (Lit.int .i64 a0).wf = true) (w1 : IsRow .u8 w a1 len1 cap1 z1) :
    Calls Try.prog 5 #[.int .i64 a0, .slice a1 len1 cap1] w fun e w' => e = .returned (.bool true) ∧ Below w.heap.size w w' := by
  obtain ⟨l, hl, hbs⟩ := w1.bytes
  have hlm : len1 ≤ maxLen := by
    rcases w1 with ⟨_, rfl, _⟩ | ⟨_, _, h1, h2, _⟩
    · exact Nat.zero_le _
    · omega
  have L := hid hl
  have BS := hid hbs
  have h0 := i64_of_wf w0
  clear hl hbs w0 w1
  go_enter Try.func5, Try.ntmps5
  go_wp2_with fail
  refine (known4_any _).mono ?_
  rintro e1 w1 ⟨rfl, hb⟩
  have B1 := hid hb
  clear hb
  go_wp2_with fail
  refine (dNew_any w1 420).mono ?_
  rintro e2 w2 ⟨d, rfl, hd2, hb2, hd⟩
  rw [show clampN 420 = 420 from rfl] at hd2
  have D2 := hid hd2
  have B2 := hid (B1.out.trans (hb2.mono B1.out.size))
  clear hd2 hb2
  go_wp2_with fail
  refine (openW B2.out 420 (by omega) (by omega) d _ D2.out (fun k hk => Nat.le_trans B1.out.size hk.1)).mono ?_
  rintro e3 w3 ⟨p, rfl, hv⟩
  have V3 := hid hv
  clear hv D2
  by_cases h5 : 504 < (len1 : Int)
  · go_wp2_with fail
    go_ret
    exact ⟨rfl, V3.out.below⟩
  · go_wp2_with fail
    refine (V3.out.new (by omega)).mono ?_
    rw [show newO 420 false as0 = (0, 12, as0) from rfl]
    rintro e4 w4 ⟨rfl, hv⟩
    have V4 := hid hv
    have hs4 := hid (BS.out.new hv.below)
    clear hv V3
    go_wp2_with fail
    refine (V4.out.put 1 _ l hs4.out (by rw [L.out]; omega) (by omega)).mono ?_
    rw [show putO false as0 1 l = (12, as0) from rfl]
    rintro e5 w5 ⟨rfl, hv⟩
    have V5 := hid hv
    clear hv V4 hs4
    go_wp2_with fail
    refine (V5.out.drop 1 (by omega)).mono ?_
    rw [show dropO false as0 1 = (12, as0) from rfl]
    rintro e6 w6 ⟨rfl, hv⟩
    have V6 := hid hv
    clear hv V5
    go_wp2_with fail
    refine (V6.out.setRoot a0 h0.2).mono ?_
    rw [show rootO false as0 a0 = (12, as0) from rfl]
    rintro e7 w7 ⟨rfl, hv⟩
    have V7 := hid hv
    clear hv V6
    go_wp2_with fail
    refine V7.out.commitShut.mono ?_
    rintro e8 w8 ⟨rfl, hv⟩
    have V8 := hid hv
    clear hv V7
    go_wp2_with fail
    refine V8.out.begin.mono ?_
    rintro e9 w9 ⟨rfl, hv⟩
    have V9 := hid hv
    clear hv V8
    go_wp2_with fail
    refine V9.out.begin.mono ?_
    rintro e10 w10 ⟨rfl, hv⟩
    have V10 := hid hv
    clear hv V9
    go_wp2_with fail
    refine (V10.out.new (by omega)).mono ?_
    rw [show newO 420 true as0 = (1, 0, as1) from rfl]
    rintro e11 w11 ⟨rfl, hv⟩
    have V11 := hid hv
    have hs11 := hid (BS.out.new hv.below)
    clear hv V10
    go_wp2_with fail
    refine (V11.out.put 1 _ l hs11.out (by rw [L.out]; omega) (by omega)).mono ?_
    rw [put_as1 (by rw [L.out]; omega)]
    rintro e12 w12 ⟨rfl, hv⟩
    have V12 := hid hv
    clear hv V11 hs11
    go_wp2_with fail
    refine V12.out.abort.mono ?_
    rintro e13 w13 ⟨rfl, hv⟩
    have V13 := hid hv
    clear hv V12
    go_wp2_with fail
    refine (V13.out.get 1).mono ?_
    rw [show getA as0 1 = ([], 1) from rfl]
    rintro e14 w14 ⟨q, m, c, rfl, hm, hb, hv⟩
    have V14 := hid hv
    clear hv hm hb V13
    go_wp2_with fail
    refine V14.out.begin.mono ?_
    rintro e15 w15 ⟨rfl, hv⟩
    have V15 := hid hv
    clear hv V14
    go_wp2_with fail
    go_ret
    exact ⟨rfl, V15.out.below⟩
end Go.Proofs.Ytiphekepglihlaa
