/- Numbers of four words: the quotient's own law. -/
import Derived.Test.YtncfgllcleidnaaWideBc
import Derived.Test.YtncfgllcleidnaaWideBd
namespace Go.Proofs.Ytncfgllcleidnaa
open Go.RowKit

set_option maxRecDepth 100000 in
set_option maxHeartbeats 8000000 in
theorem quotient_zero (a : Nat) (w : World) : Calls Try.prog 10 #[.agg #[.int .u64 (wd a 0 : Nat), .int .u64 (wd a 1 : Nat), .int .u64 (wd a 2 : Nat), .int .u64 (wd a 3 : Nat)], .agg #[.int .u64 0, .int .u64 0, .int .u64 0, .int .u64 0]] w (BRet (.bool true) w) := by
  have K1 := Lib.hid (quot_zero a)
  have AW := Lib.hid awake_any
  have E := eqW_same 0 0 0 0
  go_enter Try.func10, Try.ntmps10
  go_wp2_with fail
  refine (K1.out _).mono ?_
  rintro e w1 ⟨rfl, hb1⟩
  have Hb1 := Lib.hid ((show IsBlk _ (w.heap.size + 1) 24 #[.int .u64 0, .int .u64 0, .int .u64 0, .int .u64 0] from (IsBlk.newAt _ _ (by simp))).after hb1)
  have HB1 := Lib.hid ((show Below w.heap.size w _ from by repeat' (first | exact Below.refl _ _ | refine bel_drewN ?_ _ | refine Below.drew ?_ | refine Below.alloc ?_ ?_ _ | refine Below.setCell ?_ ?_ _ | exact Nat.le_refl _ | (simp; done) | (simp; omega) | assumption)).trans (hb1.mono (by simp <;> omega)))
  clear hb1
  have hb := Hb1.out
  have vb0 := hb.cell 0
  have vb1 := hb.cell 1
  have vb2 := hb.cell 2
  have vb3 := hb.cell 3
  simp at vb0 vb1 vb2 vb3
  have frvb := hb.free
  have lvb := hb.lt
  have lvb' : w.heap.size < w1.heap.size := by have := hb.lt; omega
  clear hb
  go_wp2_with fail
  refine (AW.out _).mono ?_
  rintro e w2 ⟨rfl, hb2⟩
  have Hb2 := Lib.hid (((Hb1.out.alloc _).alloc _).after hb2)
  have Hq2 := Lib.hid ((show IsBlk _ (w1.heap.size) 24 #[.int .u64 0, .int .u64 0, .int .u64 0, .int .u64 0] from ((IsBlk.newAt _ _ rfl).alloc _)).after hb2)
  have Hr2 := Lib.hid ((show IsBlk _ (w1.heap.size + 1) 24 #[.int .u64 0, .int .u64 0, .int .u64 0, .int .u64 0] from (IsBlk.newAt _ _ (by simp))).after hb2)
  have HB2 := Lib.hid (bel_on (bel_al (bel_al HB1.out _) _) hb2)
  clear vb0 vb1 vb2 vb3 frvb lvb lvb'
  clear hb2
  clear Hb1 HB1
  go_wp2_with fail
  go_ret
  exact ⟨rfl, HB2.out⟩

set_option maxRecDepth 100000 in
set_option maxHeartbeats 16000000 in
theorem quotient_case (a b q r X c s d : Nat) (x : Int) (M : Int) (w : World) (hM : M < 0) (hx : x = 0 ∨ x = 2)
    (E0 : ∀ w, (binOp .eql 24 (.agg #[.int .u64 (wd b 0 : Nat), .int .u64 (wd b 1 : Nat), .int .u64 (wd b 2 : Nat), .int .u64 (wd b 3 : Nat)]) (.agg #[.int .u64 0, .int .u64 0, .int .u64 0, .int .u64 0])).run Try.prog w = .ok (.bool false) w)
    (K1 : Hid (∀ w, Calls Try.prog 32 #[.agg #[.int .u64 (wd a 0 : Nat), .int .u64 (wd a 1 : Nat), .int .u64 (wd a 2 : Nat), .int .u64 (wd a 3 : Nat)], .agg #[.int .u64 (wd b 0 : Nat), .int .u64 (wd b 1 : Nat), .int .u64 (wd b 2 : Nat), .int .u64 (wd b 3 : Nat)]] w (BRet (.tuple #[.agg #[.int .u64 (wd q 0 : Nat), .int .u64 (wd q 1 : Nat), .int .u64 (wd q 2 : Nat), .int .u64 (wd q 3 : Nat)], .agg #[.int .u64 (wd r 0 : Nat), .int .u64 (wd r 1 : Nat), .int .u64 (wd r 2 : Nat), .int .u64 (wd r 3 : Nat)], .int .i64 0]) w)))
    (K2 : Hid (∀ w, Calls Try.prog 37 #[.agg #[.int .u64 (wd b 0 : Nat), .int .u64 (wd b 1 : Nat), .int .u64 (wd b 2 : Nat), .int .u64 (wd b 3 : Nat)], .agg #[.int .u64 (wd q 0 : Nat), .int .u64 (wd q 1 : Nat), .int .u64 (wd q 2 : Nat), .int .u64 (wd q 3 : Nat)]] w (BRet (.tuple #[.agg #[.int .u64 (wd X 0 : Nat), .int .u64 (wd X 1 : Nat), .int .u64 (wd X 2 : Nat), .int .u64 (wd X 3 : Nat)], .bool true]) w)))
    (K3 : Hid (∀ w, Calls Try.prog 18 #[.agg #[.int .u64 (wd X 0 : Nat), .int .u64 (wd X 1 : Nat), .int .u64 (wd X 2 : Nat), .int .u64 (wd X 3 : Nat)], .agg #[.int .u64 (wd r 0 : Nat), .int .u64 (wd r 1 : Nat), .int .u64 (wd r 2 : Nat), .int .u64 (wd r 3 : Nat)]] w (BRet (.tuple #[.agg #[.int .u64 (wd a 0 : Nat), .int .u64 (wd a 1 : Nat), .int .u64 (wd a 2 : Nat), .int .u64 (wd a 3 : Nat)], .bool false]) w)))
    (K4 : Hid (∀ w, Calls Try.prog 22 #[.agg #[.int .u64 (wd r 0 : Nat), .int .u64 (wd r 1 : Nat), .int .u64 (wd r 2 : Nat), .int .u64 (wd r 3 : Nat)], .agg #[.int .u64 (wd b 0 : Nat), .int .u64 (wd b 1 : Nat), .int .u64 (wd b 2 : Nat), .int .u64 (wd b 3 : Nat)]] w (BRet (.int .i64 M) w)))
    (K5 : Hid (∀ w, Calls Try.prog 35 #[.agg #[.int .u64 (wd a 0 : Nat), .int .u64 (wd a 1 : Nat), .int .u64 (wd a 2 : Nat), .int .u64 (wd a 3 : Nat)], .int .u64 (wd b 0 : Nat)] w (BRet (.tuple #[.agg #[.int .u64 (wd c 0 : Nat), .int .u64 (wd c 1 : Nat), .int .u64 (wd c 2 : Nat), .int .u64 (wd c 3 : Nat)], .int .u64 d, .int .i64 x]) w)))
    (K6 : Hid (∀ w, Calls Try.prog 17 #[.int .u64 (wd b 0 : Nat)] w (BRet (.agg #[.int .u64 (wd b 0 : Nat), .int .u64 0, .int .u64 0, .int .u64 0]) w)))
    (K7 : Hid (∀ w, Calls Try.prog 32 #[.agg #[.int .u64 (wd a 0 : Nat), .int .u64 (wd a 1 : Nat), .int .u64 (wd a 2 : Nat), .int .u64 (wd a 3 : Nat)], .agg #[.int .u64 (wd b 0 : Nat), .int .u64 0, .int .u64 0, .int .u64 0]] w (BRet (.tuple #[.agg #[.int .u64 (wd c 0 : Nat), .int .u64 (wd c 1 : Nat), .int .u64 (wd c 2 : Nat), .int .u64 (wd c 3 : Nat)], .agg #[.int .u64 (wd s 0 : Nat), .int .u64 (wd s 1 : Nat), .int .u64 (wd s 2 : Nat), .int .u64 (wd s 3 : Nat)], .int .i64 x]) w)))
    (K8 : Hid (∀ w, Calls Try.prog 17 #[.int .u64 d] w (BRet (.agg #[.int .u64 (wd s 0 : Nat), .int .u64 (wd s 1 : Nat), .int .u64 (wd s 2 : Nat), .int .u64 (wd s 3 : Nat)]) w)))
    (AW : Hid (∀ w, Calls Try.prog 15 #[] w (BRet (.bool true) w))) :
    Calls Try.prog 10 #[.agg #[.int .u64 (wd a 0 : Nat), .int .u64 (wd a 1 : Nat), .int .u64 (wd a 2 : Nat), .int .u64 (wd a 3 : Nat)], .agg #[.int .u64 (wd b 0 : Nat), .int .u64 (wd b 1 : Nat), .int .u64 (wd b 2 : Nat), .int .u64 (wd b 3 : Nat)]] w (BRet (.bool true) w) := by
  have E1 := neW_same (wd a 0 : Nat) (wd a 1 : Nat) (wd a 2 : Nat) (wd a 3 : Nat)
  have E2 := eqW_same (wd c 0 : Nat) (wd c 1 : Nat) (wd c 2 : Nat) (wd c 3 : Nat)
  have E3 := eqW_same (wd s 0 : Nat) (wd s 1 : Nat) (wd s 2 : Nat) (wd s 3 : Nat)
  have hM2 : ¬ (0 : Int) ≤ M := by omega
  have HX := Lib.hid hx
  clear hx
  go_enter Try.func10, Try.ntmps10
  go_wp2_with fail
  refine (K1.out _).mono ?_
  rintro e w1 ⟨rfl, hb1⟩
  have Ha1 := Lib.hid ((show IsBlk _ (w.heap.size) 24 #[.int .u64 (wd a 0 : Nat), .int .u64 (wd a 1 : Nat), .int .u64 (wd a 2 : Nat), .int .u64 (wd a 3 : Nat)] from ((IsBlk.newAt _ _ rfl).alloc _)).after hb1)
  have Hb1 := Lib.hid ((show IsBlk _ (w.heap.size + 1) 24 #[.int .u64 (wd b 0 : Nat), .int .u64 (wd b 1 : Nat), .int .u64 (wd b 2 : Nat), .int .u64 (wd b 3 : Nat)] from (IsBlk.newAt _ _ (by simp))).after hb1)
  have HB1 := Lib.hid ((show Below w.heap.size w _ from by repeat' (first | exact Below.refl _ _ | refine bel_drewN ?_ _ | refine Below.drew ?_ | refine Below.alloc ?_ ?_ _ | refine Below.setCell ?_ ?_ _ | exact Nat.le_refl _ | (simp; done) | (simp; omega) | assumption)).trans (hb1.mono (by simp <;> omega)))
  clear hb1
  have hb := Hb1.out
  have vb0 := hb.cell 0
  have vb1 := hb.cell 1
  have vb2 := hb.cell 2
  have vb3 := hb.cell 3
  simp at vb0 vb1 vb2 vb3
  have frvb := hb.free
  have lvb := hb.lt
  have lvb' : w.heap.size < w1.heap.size := by have := hb.lt; omega
  clear hb
  go_wp2_with fail
  refine (K2.out _).mono ?_
  rintro e w2 ⟨rfl, hb2⟩
  have Ha2 := Lib.hid (((Ha1.out.alloc _).alloc _).after hb2)
  have Hb2 := Lib.hid (((Hb1.out.alloc _).alloc _).after hb2)
  have Hq2 := Lib.hid ((show IsBlk _ (w1.heap.size) 24 #[.int .u64 (wd q 0 : Nat), .int .u64 (wd q 1 : Nat), .int .u64 (wd q 2 : Nat), .int .u64 (wd q 3 : Nat)] from ((IsBlk.newAt _ _ rfl).alloc _)).after hb2)
  have Hr2 := Lib.hid ((show IsBlk _ (w1.heap.size + 1) 24 #[.int .u64 (wd r 0 : Nat), .int .u64 (wd r 1 : Nat), .int .u64 (wd r 2 : Nat), .int .u64 (wd r 3 : Nat)] from (IsBlk.newAt _ _ (by simp))).after hb2)
  have HB2 := Lib.hid (bel_on (bel_al (bel_al HB1.out _) _) hb2)
  clear vb0 vb1 vb2 vb3 frvb lvb lvb'
  clear hb2
  clear Ha1 Hb1 HB1
  have hr := Hr2.out
  have vr0 := hr.cell 0
  have vr1 := hr.cell 1
  have vr2 := hr.cell 2
  have vr3 := hr.cell 3
  simp at vr0 vr1 vr2 vr3
  have frvr := hr.free
  have lvr := hr.lt
  have lvr' : w1.heap.size < w2.heap.size := by have := hr.lt; omega
  clear hr
  go_wp2_with fail
  refine (K3.out _).mono ?_
  rintro e w3 ⟨rfl, hb3⟩
  have Ha3 := Lib.hid ((Ha2.out.alloc _).after hb3)
  have Hb3 := Lib.hid ((Hb2.out.alloc _).after hb3)
  have Hq3 := Lib.hid ((Hq2.out.alloc _).after hb3)
  have Hr3 := Lib.hid ((Hr2.out.alloc _).after hb3)
  have Hx3 := Lib.hid ((show IsBlk _ (w2.heap.size) 24 #[.int .u64 (wd X 0 : Nat), .int .u64 (wd X 1 : Nat), .int .u64 (wd X 2 : Nat), .int .u64 (wd X 3 : Nat)] from (IsBlk.newAt _ _ rfl)).after hb3)
  have HB3 := Lib.hid (bel_on (bel_al HB2.out _) hb3)
  clear vr0 vr1 vr2 vr3 frvr lvr lvr'
  clear hb3
  clear Ha2 Hb2 Hq2 Hr2 HB2
  have ha := Ha3.out
  have va0 := ha.cell 0
  have va1 := ha.cell 1
  have va2 := ha.cell 2
  have va3 := ha.cell 3
  simp at va0 va1 va2 va3
  have frva := ha.free
  have lva := ha.lt
  clear ha
  have hr := Hr3.out
  have vr0 := hr.cell 0
  have vr1 := hr.cell 1
  have vr2 := hr.cell 2
  have vr3 := hr.cell 3
  simp at vr0 vr1 vr2 vr3
  have frvr := hr.free
  have lvr := hr.lt
  have lvr' : w1.heap.size < w3.heap.size := by have := hr.lt; omega
  clear hr
  have hb := Hb3.out
  have vb0 := hb.cell 0
  have vb1 := hb.cell 1
  have vb2 := hb.cell 2
  have vb3 := hb.cell 3
  simp at vb0 vb1 vb2 vb3
  have frvb := hb.free
  have lvb := hb.lt
  have lvb' : w.heap.size < w3.heap.size := by have := hb.lt; omega
  clear hb
  go_wp2_with fail
  refine (K4.out _).mono ?_
  rintro e w4 ⟨rfl, hb4⟩
  have Ha4 := Lib.hid ((Ha3.out.alloc _).after hb4)
  have Hb4 := Lib.hid ((Hb3.out.alloc _).after hb4)
  have Hq4 := Lib.hid ((Hq3.out.alloc _).after hb4)
  have Hr4 := Lib.hid ((Hr3.out.alloc _).after hb4)
  have Hx4 := Lib.hid ((Hx3.out.alloc _).after hb4)
  have Hy4 := Lib.hid ((show IsBlk _ (w3.heap.size) 24 #[.int .u64 (wd a 0 : Nat), .int .u64 (wd a 1 : Nat), .int .u64 (wd a 2 : Nat), .int .u64 (wd a 3 : Nat)] from (IsBlk.newAt _ _ rfl)).after hb4)
  have HB4 := Lib.hid (bel_on (bel_al HB3.out _) hb4)
  clear va0 va1 va2 va3 frva lva
  clear vr0 vr1 vr2 vr3 frvr lvr lvr'
  clear vb0 vb1 vb2 vb3 frvb lvb lvb'
  clear hb4
  clear Ha3 Hb3 Hq3 Hr3 Hx3 HB3
  have ha := Ha4.out
  have va0 := ha.cell 0
  have va1 := ha.cell 1
  have va2 := ha.cell 2
  have va3 := ha.cell 3
  simp at va0 va1 va2 va3
  have frva := ha.free
  have lva := ha.lt
  clear ha
  have hb := Hb4.out
  have vb0 := hb.cell 0
  have vb1 := hb.cell 1
  have vb2 := hb.cell 2
  have vb3 := hb.cell 3
  simp at vb0 vb1 vb2 vb3
  have frvb := hb.free
  have lvb := hb.lt
  have lvb' : w.heap.size < w4.heap.size := by have := hb.lt; omega
  clear hb
  go_wp2_with fail
  refine (K5.out _).mono ?_
  rintro e w5 ⟨rfl, hb5⟩
  have Ha5 := Lib.hid (Ha4.out.after hb5)
  have Hb5 := Lib.hid (Hb4.out.after hb5)
  have Hq5 := Lib.hid (Hq4.out.after hb5)
  have Hr5 := Lib.hid (Hr4.out.after hb5)
  have Hx5 := Lib.hid (Hx4.out.after hb5)
  have Hy5 := Lib.hid (Hy4.out.after hb5)
  have HB5 := Lib.hid (bel_on HB4.out hb5)
  clear va0 va1 va2 va3 frva lva
  clear vb0 vb1 vb2 vb3 frvb lvb lvb'
  clear hb5
  clear Ha4 Hb4 Hq4 Hr4 Hx4 Hy4 HB4
  have ha := Ha5.out
  have va0 := ha.cell 0
  have va1 := ha.cell 1
  have va2 := ha.cell 2
  have va3 := ha.cell 3
  simp at va0 va1 va2 va3
  have frva := ha.free
  have lva := ha.lt
  clear ha
  go_upto_region 10 with fail
  refine wp_gen (fun w' => IsBlk w' w.heap.size 24 #[.int .u64 (wd a 0 : Nat), .int .u64 (wd a 1 : Nat), .int .u64 (wd a 2 : Nat), .int .u64 (wd a 3 : Nat)] ∧ IsBlk w' w5.heap.size 24 #[.int .u64 (wd c 0 : Nat), .int .u64 (wd c 1 : Nat), .int .u64 (wd c 2 : Nat), .int .u64 (wd c 3 : Nat)] ∧ Below w.heap.size w w') ⟨Ha5.out.alloc _, IsBlk.newAt _ _ rfl, (bel_al HB5.out _)⟩ ?_
  rintro w6 ⟨hA, hC, hB⟩
  have lcl := hC.lt
  generalize w5.heap.size = gc at *
  have HA := Lib.hid hA
  have HC := Lib.hid hC
  have HB := Lib.hid hB
  clear hA hC hB va0 va1 va2 va3 frva lva
  go_cut [16, 17, 18] (fun s16 s17 s18 wx => ∃ g8 g9 : Nat, s16 = .pointer (some ⟨g8, 0, none⟩) ∧ s17 = .pointer (some ⟨g9, 0, none⟩) ∧ s18 = .int .i64 x ∧ g8 ≠ g9 ∧ Ext w6 wx ∧ IsBlk wx g8 24 #[.int .u64 (wd c 0 : Nat), .int .u64 (wd c 1 : Nat), .int .u64 (wd c 2 : Nat), .int .u64 (wd c 3 : Nat)] ∧ IsBlk wx g9 24 #[.int .u64 (wd s 0 : Nat), .int .u64 (wd s 1 : Nat), .int .u64 (wd s 2 : Nat), .int .u64 (wd s 3 : Nat)])
  case first =>
    refine Held.start 13 (Ext w6) (by kernel_rfl) rfl (Below.refl _ _).drew ?_
    (first | (refine Held.skip (i := 0) rfl (by kernel_rfl) (fun _ _ _ h => h) rfl ?_; (try (try simp only [Act.put, List.setIfInBounds_toArray, List.set_cons_zero, List.set_cons_succ]))) | (refine Held.take (i := 0) (v := ?_) rfl (by kernel_rfl) (fun _ _ _ h => h) rfl ?_ ?_; rotate_left; (intro w hS; have hE := hS; have hx := HA.out.after hE; have x0 := hx.cell 0; have x1 := hx.cell 1; have x2 := hx.cell 2; have x3 := hx.cell 3; simp at x0 x1 x2 x3; go_simp; with_reducible rfl); (try (try simp only [Act.put, List.setIfInBounds_toArray, List.set_cons_zero, List.set_cons_succ]))))
    (first | (refine Held.skip (i := 1) rfl (by kernel_rfl) (fun _ _ _ h => h) rfl ?_; (try (try simp only [Act.put, List.setIfInBounds_toArray, List.set_cons_zero, List.set_cons_succ]))) | (refine Held.take (i := 1) (v := ?_) rfl (by kernel_rfl) (fun _ _ _ h => h) rfl ?_ ?_; rotate_left; (intro w hS; have hE := hS; have hx := HA.out.after hE; have x0 := hx.cell 0; have x1 := hx.cell 1; have x2 := hx.cell 2; have x3 := hx.cell 3; simp at x0 x1 x2 x3; go_simp; with_reducible rfl); (try (try simp only [Act.put, List.setIfInBounds_toArray, List.set_cons_zero, List.set_cons_succ]))))
    refine Held.three (i := 2) (j := 8) (k := 9) (by kernel_rfl) ?_ ?_ ?_
    · refine HeldOp.call (i := 2) (f := ?_) (args := ?_) rfl rfl ?_ ?_
      rotate_left 2
      · (intro w hS; go_simp; (first | with_reducible rfl | (refine ⟨?_, ?_⟩ <;> with_reducible rfl)))
      intro wcx hSc
      (with_reducible refine (K6.out _).mono ?_)
      rintro e vc ⟨rfl, hb⟩
      refine ⟨_, rfl, (Ext w6), bel_on hSc hb, fun w h => h, ?_⟩
      clear hSc hb
      (try simp only [Act.put, List.setIfInBounds_toArray, List.set_cons_zero, List.set_cons_succ])
      refine Held.three (i := 3) (j := 8) (k := 9) (by kernel_rfl) ?_ ?_ ?_
      · refine HeldOp.call (i := 3) (f := ?_) (args := ?_) rfl rfl ?_ ?_
        rotate_left 2
        · (intro w hS; go_simp; (first | with_reducible rfl | (refine ⟨?_, ?_⟩ <;> with_reducible rfl)))
        intro wcx hSc
        (with_reducible refine (K7.out _).mono ?_)
        rintro e vc ⟨rfl, hb⟩
        refine ⟨_, rfl, (Ext w6), bel_on hSc hb, fun w h => h, ?_⟩
        clear hSc hb
        (try simp only [Act.put, List.setIfInBounds_toArray, List.set_cons_zero, List.set_cons_succ])
        (first | (refine Held.skip (i := 4) rfl (by kernel_rfl) (fun _ _ _ h => h) rfl ?_; (try (try simp only [Act.put, List.setIfInBounds_toArray, List.set_cons_zero, List.set_cons_succ]))) | (refine Held.take (i := 4) (v := ?_) rfl (by kernel_rfl) (fun _ _ _ h => h) rfl ?_ ?_; rotate_left; (intro w hS; have hE := hS; have hx := HA.out.after hE; have x0 := hx.cell 0; have x1 := hx.cell 1; have x2 := hx.cell 2; have x3 := hx.cell 3; simp at x0 x1 x2 x3; go_simp; with_reducible rfl); (try (try simp only [Act.put, List.setIfInBounds_toArray, List.set_cons_zero, List.set_cons_succ]))))
        (first | (refine Held.skip (i := 5) rfl (by kernel_rfl) (fun _ _ _ h => h) rfl ?_; (try (try simp only [Act.put, List.setIfInBounds_toArray, List.set_cons_zero, List.set_cons_succ]))) | (refine Held.take (i := 5) (v := ?_) rfl (by kernel_rfl) (fun _ _ _ h => h) rfl ?_ ?_; rotate_left; (intro w hS; have hE := hS; have hx := HA.out.after hE; have x0 := hx.cell 0; have x1 := hx.cell 1; have x2 := hx.cell 2; have x3 := hx.cell 3; simp at x0 x1 x2 x3; go_simp; with_reducible rfl); (try (try simp only [Act.put, List.setIfInBounds_toArray, List.set_cons_zero, List.set_cons_succ]))))
        (first | (refine Held.skip (i := 6) rfl (by kernel_rfl) (fun _ _ _ h => h) rfl ?_; (try (try simp only [Act.put, List.setIfInBounds_toArray, List.set_cons_zero, List.set_cons_succ]))) | (refine Held.take (i := 6) (v := ?_) rfl (by kernel_rfl) (fun _ _ _ h => h) rfl ?_ ?_; rotate_left; (intro w hS; have hE := hS; have hx := HA.out.after hE; have x0 := hx.cell 0; have x1 := hx.cell 1; have x2 := hx.cell 2; have x3 := hx.cell 3; simp at x0 x1 x2 x3; go_simp; with_reducible rfl); (try (try simp only [Act.put, List.setIfInBounds_toArray, List.set_cons_zero, List.set_cons_succ]))))
        (first | (refine Held.skip (i := 7) rfl (by kernel_rfl) (fun _ _ _ h => h) rfl ?_; (try (try simp only [Act.put, List.setIfInBounds_toArray, List.set_cons_zero, List.set_cons_succ]))) | (refine Held.take (i := 7) (v := ?_) rfl (by kernel_rfl) (fun _ _ _ h => h) rfl ?_ ?_; rotate_left; (intro w hS; have hE := hS; have hx := HA.out.after hE; have x0 := hx.cell 0; have x1 := hx.cell 1; have x2 := hx.cell 2; have x3 := hx.cell 3; simp at x0 x1 x2 x3; go_simp; with_reducible rfl); (try (try simp only [Act.put, List.setIfInBounds_toArray, List.set_cons_zero, List.set_cons_succ]))))
        refine Held.two (i := 8) (j := 9) (by kernel_rfl) ?_ ?_
        · refine HeldOp.step (i := 8) rfl rfl ?_
          intro wcx hSc
          have hg8 : w6.heap.size ≤ wcx.heap.size := Below.size (hSc)
          refine ⟨.pointer (some ⟨wcx.heap.size, 0, none⟩), wcx.alloc (.cells #[.int .u64 0, .int .u64 0, .int .u64 0, .int .u64 0] 24), .inl (by go_simp), (fun w' => Ext w6 w' ∧ Four w' wcx.heap.size), ⟨Below.alloc (hSc) (Below.size (hSc)) _, ⟨_, _, _, _, IsBlk.new _ _ _⟩⟩, fun w h => h.1, ?_⟩
          generalize wcx.heap.size = g8 at *
          clear hSc
          (try simp only [Act.put, List.setIfInBounds_toArray, List.set_cons_zero, List.set_cons_succ])
          refine Held.one (i := 9) (by kernel_rfl) ?_
          · refine HeldOp.step (i := 9) rfl rfl ?_
            intro wcx hSc
            have hg9 : w6.heap.size ≤ wcx.heap.size := Below.size (hSc.1)
            have hn9 : g8 < wcx.heap.size := Four.lt (hSc.2)
            refine ⟨.pointer (some ⟨wcx.heap.size, 0, none⟩), wcx.alloc (.cells #[.int .u64 0, .int .u64 0, .int .u64 0, .int .u64 0] 24), .inl (by go_simp), (fun w' => Ext w6 w' ∧ Four w' g8 ∧ Four w' wcx.heap.size), ⟨Below.alloc (hSc.1) (Below.size (hSc.1)) _, Four.alloc (hSc.2) _, ⟨_, _, _, _, IsBlk.new _ _ _⟩⟩, fun w h => ⟨h.1, h.2.1⟩, ?_⟩
            generalize wcx.heap.size = g9 at *
            clear hSc
            (try simp only [Act.put, List.setIfInBounds_toArray, List.set_cons_zero, List.set_cons_succ])
            refine Held.one (i := 10) (by kernel_rfl) ?_
            · refine HeldOp.step (i := 10) rfl rfl ?_
              intro wcx hSc
              obtain ⟨c0, c1, c2, c3, hblk⟩ := hSc.2.1
              refine ⟨undef, ((((wcx.setCell ⟨g8, 0, none⟩ (.int .u64 (wd c 0 : Nat))).setCell ⟨g8, 1, none⟩ (.int .u64 (wd c 1 : Nat))).setCell ⟨g8, 2, none⟩ (.int .u64 (wd c 2 : Nat))).setCell ⟨g8, 3, none⟩ (.int .u64 (wd c 3 : Nat))), .inr ⟨?_, rfl⟩, (fun w' => Ext w6 w' ∧ IsBlk w' g8 24 #[.int .u64 (wd c 0 : Nat), .int .u64 (wd c 1 : Nat), .int .u64 (wd c 2 : Nat), .int .u64 (wd c 3 : Nat)] ∧ Four w' g9), ⟨bel4 hSc.1 hg8, stored4 hblk, Four.far4 (hSc.2.2) (by omega)⟩, fun w h => ⟨h.1, ⟨_, _, _, _, h.2.1⟩, h.2.2⟩, ?_⟩
              · have b0 := hblk.cell 0
                have b1 := hblk.cell 1
                have b2 := hblk.cell 2
                have b3 := hblk.cell 3
                simp at b0 b1 b2 b3
                have frb := hblk.free
                have ltb := hblk.lt
                go_simp
              clear hSc hblk
              (try simp only [Act.put, List.setIfInBounds_toArray, List.set_cons_zero, List.set_cons_succ])
              refine Held.one (i := 11) (by kernel_rfl) ?_
              · refine HeldOp.step (i := 11) rfl rfl ?_
                intro wcx hSc
                obtain ⟨c0, c1, c2, c3, hblk⟩ := hSc.2.2
                refine ⟨undef, ((((wcx.setCell ⟨g9, 0, none⟩ (.int .u64 (wd s 0 : Nat))).setCell ⟨g9, 1, none⟩ (.int .u64 (wd s 1 : Nat))).setCell ⟨g9, 2, none⟩ (.int .u64 (wd s 2 : Nat))).setCell ⟨g9, 3, none⟩ (.int .u64 (wd s 3 : Nat))), .inr ⟨?_, rfl⟩, (fun w' => Ext w6 w' ∧ IsBlk w' g8 24 #[.int .u64 (wd c 0 : Nat), .int .u64 (wd c 1 : Nat), .int .u64 (wd c 2 : Nat), .int .u64 (wd c 3 : Nat)] ∧ IsBlk w' g9 24 #[.int .u64 (wd s 0 : Nat), .int .u64 (wd s 1 : Nat), .int .u64 (wd s 2 : Nat), .int .u64 (wd s 3 : Nat)]), ⟨bel4 hSc.1 hg9, far4 (hSc.2.1) (by omega), stored4 hblk⟩, fun w h => ⟨h.1, h.2.1, ⟨_, _, _, _, h.2.2⟩⟩, ?_⟩
                · have b0 := hblk.cell 0
                  have b1 := hblk.cell 1
                  have b2 := hblk.cell 2
                  have b3 := hblk.cell 3
                  simp at b0 b1 b2 b3
                  have frb := hblk.free
                  have ltb := hblk.lt
                  go_simp
                clear hSc hblk
                (try simp only [Act.put, List.setIfInBounds_toArray, List.set_cons_zero, List.set_cons_succ])
                (first | (refine Held.skip (i := 12) rfl (by kernel_rfl) (fun _ _ _ h => h) rfl ?_; (try (try simp only [Act.put, List.setIfInBounds_toArray, List.set_cons_zero, List.set_cons_succ]))) | (refine Held.take (i := 12) (v := ?_) rfl (by kernel_rfl) (fun _ _ _ h => h) rfl ?_ ?_; rotate_left; (intro w hS; have hE := hS.1; have hx := HA.out.after hE; have x0 := hx.cell 0; have x1 := hx.cell 1; have x2 := hx.cell 2; have x3 := hx.cell 3; simp at x0 x1 x2 x3; go_simp; with_reducible rfl); (try (try simp only [Act.put, List.setIfInBounds_toArray, List.set_cons_zero, List.set_cons_succ]))))
                refine Held.done (by kernel_rfl) ?_
                intro wz hz
                have hne : g8 ≠ g9 := by omega
                go_wp2_with fail
                go_meet
                exact ⟨g8, g9, rfl, rfl, rfl, hne, hz.1, hz.2.1, hz.2.2⟩
        · refine HeldOp.step (i := 9) rfl rfl ?_
          intro wcx hSc
          have hg9 : w6.heap.size ≤ wcx.heap.size := Below.size (hSc)
          refine ⟨.pointer (some ⟨wcx.heap.size, 0, none⟩), wcx.alloc (.cells #[.int .u64 0, .int .u64 0, .int .u64 0, .int .u64 0] 24), .inl (by go_simp), (fun w' => Ext w6 w' ∧ Four w' wcx.heap.size), ⟨Below.alloc (hSc) (Below.size (hSc)) _, ⟨_, _, _, _, IsBlk.new _ _ _⟩⟩, fun w h => h.1, ?_⟩
          generalize wcx.heap.size = g9 at *
          clear hSc
          (try simp only [Act.put, List.setIfInBounds_toArray, List.set_cons_zero, List.set_cons_succ])
          refine Held.one (i := 8) (by kernel_rfl) ?_
          · refine HeldOp.step (i := 8) rfl rfl ?_
            intro wcx hSc
            have hg8 : w6.heap.size ≤ wcx.heap.size := Below.size (hSc.1)
            have hn8 : g9 < wcx.heap.size := Four.lt (hSc.2)
            refine ⟨.pointer (some ⟨wcx.heap.size, 0, none⟩), wcx.alloc (.cells #[.int .u64 0, .int .u64 0, .int .u64 0, .int .u64 0] 24), .inl (by go_simp), (fun w' => Ext w6 w' ∧ Four w' wcx.heap.size ∧ Four w' g9), ⟨Below.alloc (hSc.1) (Below.size (hSc.1)) _, ⟨_, _, _, _, IsBlk.new _ _ _⟩, Four.alloc (hSc.2) _⟩, fun w h => ⟨h.1, h.2.2⟩, ?_⟩
            generalize wcx.heap.size = g8 at *
            clear hSc
            (try simp only [Act.put, List.setIfInBounds_toArray, List.set_cons_zero, List.set_cons_succ])
            refine Held.one (i := 10) (by kernel_rfl) ?_
            · refine HeldOp.step (i := 10) rfl rfl ?_
              intro wcx hSc
              obtain ⟨c0, c1, c2, c3, hblk⟩ := hSc.2.1
              refine ⟨undef, ((((wcx.setCell ⟨g8, 0, none⟩ (.int .u64 (wd c 0 : Nat))).setCell ⟨g8, 1, none⟩ (.int .u64 (wd c 1 : Nat))).setCell ⟨g8, 2, none⟩ (.int .u64 (wd c 2 : Nat))).setCell ⟨g8, 3, none⟩ (.int .u64 (wd c 3 : Nat))), .inr ⟨?_, rfl⟩, (fun w' => Ext w6 w' ∧ IsBlk w' g8 24 #[.int .u64 (wd c 0 : Nat), .int .u64 (wd c 1 : Nat), .int .u64 (wd c 2 : Nat), .int .u64 (wd c 3 : Nat)] ∧ Four w' g9), ⟨bel4 hSc.1 hg8, stored4 hblk, Four.far4 (hSc.2.2) (by omega)⟩, fun w h => ⟨h.1, ⟨_, _, _, _, h.2.1⟩, h.2.2⟩, ?_⟩
              · have b0 := hblk.cell 0
                have b1 := hblk.cell 1
                have b2 := hblk.cell 2
                have b3 := hblk.cell 3
                simp at b0 b1 b2 b3
                have frb := hblk.free
                have ltb := hblk.lt
                go_simp
              clear hSc hblk
              (try simp only [Act.put, List.setIfInBounds_toArray, List.set_cons_zero, List.set_cons_succ])
              refine Held.one (i := 11) (by kernel_rfl) ?_
              · refine HeldOp.step (i := 11) rfl rfl ?_
                intro wcx hSc
                obtain ⟨c0, c1, c2, c3, hblk⟩ := hSc.2.2
                refine ⟨undef, ((((wcx.setCell ⟨g9, 0, none⟩ (.int .u64 (wd s 0 : Nat))).setCell ⟨g9, 1, none⟩ (.int .u64 (wd s 1 : Nat))).setCell ⟨g9, 2, none⟩ (.int .u64 (wd s 2 : Nat))).setCell ⟨g9, 3, none⟩ (.int .u64 (wd s 3 : Nat))), .inr ⟨?_, rfl⟩, (fun w' => Ext w6 w' ∧ IsBlk w' g8 24 #[.int .u64 (wd c 0 : Nat), .int .u64 (wd c 1 : Nat), .int .u64 (wd c 2 : Nat), .int .u64 (wd c 3 : Nat)] ∧ IsBlk w' g9 24 #[.int .u64 (wd s 0 : Nat), .int .u64 (wd s 1 : Nat), .int .u64 (wd s 2 : Nat), .int .u64 (wd s 3 : Nat)]), ⟨bel4 hSc.1 hg9, far4 (hSc.2.1) (by omega), stored4 hblk⟩, fun w h => ⟨h.1, h.2.1, ⟨_, _, _, _, h.2.2⟩⟩, ?_⟩
                · have b0 := hblk.cell 0
                  have b1 := hblk.cell 1
                  have b2 := hblk.cell 2
                  have b3 := hblk.cell 3
                  simp at b0 b1 b2 b3
                  have frb := hblk.free
                  have ltb := hblk.lt
                  go_simp
                clear hSc hblk
                (try simp only [Act.put, List.setIfInBounds_toArray, List.set_cons_zero, List.set_cons_succ])
                (first | (refine Held.skip (i := 12) rfl (by kernel_rfl) (fun _ _ _ h => h) rfl ?_; (try (try simp only [Act.put, List.setIfInBounds_toArray, List.set_cons_zero, List.set_cons_succ]))) | (refine Held.take (i := 12) (v := ?_) rfl (by kernel_rfl) (fun _ _ _ h => h) rfl ?_ ?_; rotate_left; (intro w hS; have hE := hS.1; have hx := HA.out.after hE; have x0 := hx.cell 0; have x1 := hx.cell 1; have x2 := hx.cell 2; have x3 := hx.cell 3; simp at x0 x1 x2 x3; go_simp; with_reducible rfl); (try (try simp only [Act.put, List.setIfInBounds_toArray, List.set_cons_zero, List.set_cons_succ]))))
                refine Held.done (by kernel_rfl) ?_
                intro wz hz
                have hne : g8 ≠ g9 := by omega
                go_wp2_with fail
                go_meet
                exact ⟨g8, g9, rfl, rfl, rfl, hne, hz.1, hz.2.1, hz.2.2⟩
      · refine HeldOp.step (i := 8) rfl rfl ?_
        intro wcx hSc
        have hg8 : w6.heap.size ≤ wcx.heap.size := Below.size (hSc)
        refine ⟨.pointer (some ⟨wcx.heap.size, 0, none⟩), wcx.alloc (.cells #[.int .u64 0, .int .u64 0, .int .u64 0, .int .u64 0] 24), .inl (by go_simp), (fun w' => Ext w6 w' ∧ Four w' wcx.heap.size), ⟨Below.alloc (hSc) (Below.size (hSc)) _, ⟨_, _, _, _, IsBlk.new _ _ _⟩⟩, fun w h => h.1, ?_⟩
        generalize wcx.heap.size = g8 at *
        clear hSc
        (try simp only [Act.put, List.setIfInBounds_toArray, List.set_cons_zero, List.set_cons_succ])
        refine Held.two (i := 3) (j := 9) (by kernel_rfl) ?_ ?_
        · refine HeldOp.call (i := 3) (f := ?_) (args := ?_) rfl rfl ?_ ?_
          rotate_left 2
          · (intro w hS; go_simp; (first | with_reducible rfl | (refine ⟨?_, ?_⟩ <;> with_reducible rfl)))
          intro wcx hSc
          (with_reducible refine (K7.out _).mono ?_)
          rintro e vc ⟨rfl, hb⟩
          refine ⟨_, rfl, (fun w' => Ext w6 w' ∧ Four w' g8), ⟨bel_on hSc.1 hb, hSc.2.on hb⟩, fun w h => h, ?_⟩
          clear hSc hb
          (try simp only [Act.put, List.setIfInBounds_toArray, List.set_cons_zero, List.set_cons_succ])
          (first | (refine Held.skip (i := 4) rfl (by kernel_rfl) (fun _ _ _ h => h) rfl ?_; (try (try simp only [Act.put, List.setIfInBounds_toArray, List.set_cons_zero, List.set_cons_succ]))) | (refine Held.take (i := 4) (v := ?_) rfl (by kernel_rfl) (fun _ _ _ h => h) rfl ?_ ?_; rotate_left; (intro w hS; have hE := hS.1; have hx := HA.out.after hE; have x0 := hx.cell 0; have x1 := hx.cell 1; have x2 := hx.cell 2; have x3 := hx.cell 3; simp at x0 x1 x2 x3; go_simp; with_reducible rfl); (try (try simp only [Act.put, List.setIfInBounds_toArray, List.set_cons_zero, List.set_cons_succ]))))
          (first | (refine Held.skip (i := 5) rfl (by kernel_rfl) (fun _ _ _ h => h) rfl ?_; (try (try simp only [Act.put, List.setIfInBounds_toArray, List.set_cons_zero, List.set_cons_succ]))) | (refine Held.take (i := 5) (v := ?_) rfl (by kernel_rfl) (fun _ _ _ h => h) rfl ?_ ?_; rotate_left; (intro w hS; have hE := hS.1; have hx := HA.out.after hE; have x0 := hx.cell 0; have x1 := hx.cell 1; have x2 := hx.cell 2; have x3 := hx.cell 3; simp at x0 x1 x2 x3; go_simp; with_reducible rfl); (try (try simp only [Act.put, List.setIfInBounds_toArray, List.set_cons_zero, List.set_cons_succ]))))
          (first | (refine Held.skip (i := 6) rfl (by kernel_rfl) (fun _ _ _ h => h) rfl ?_; (try (try simp only [Act.put, List.setIfInBounds_toArray, List.set_cons_zero, List.set_cons_succ]))) | (refine Held.take (i := 6) (v := ?_) rfl (by kernel_rfl) (fun _ _ _ h => h) rfl ?_ ?_; rotate_left; (intro w hS; have hE := hS.1; have hx := HA.out.after hE; have x0 := hx.cell 0; have x1 := hx.cell 1; have x2 := hx.cell 2; have x3 := hx.cell 3; simp at x0 x1 x2 x3; go_simp; with_reducible rfl); (try (try simp only [Act.put, List.setIfInBounds_toArray, List.set_cons_zero, List.set_cons_succ]))))
          (first | (refine Held.skip (i := 7) rfl (by kernel_rfl) (fun _ _ _ h => h) rfl ?_; (try (try simp only [Act.put, List.setIfInBounds_toArray, List.set_cons_zero, List.set_cons_succ]))) | (refine Held.take (i := 7) (v := ?_) rfl (by kernel_rfl) (fun _ _ _ h => h) rfl ?_ ?_; rotate_left; (intro w hS; have hE := hS.1; have hx := HA.out.after hE; have x0 := hx.cell 0; have x1 := hx.cell 1; have x2 := hx.cell 2; have x3 := hx.cell 3; simp at x0 x1 x2 x3; go_simp; with_reducible rfl); (try (try simp only [Act.put, List.setIfInBounds_toArray, List.set_cons_zero, List.set_cons_succ]))))
          refine Held.one (i := 9) (by kernel_rfl) ?_
          · refine HeldOp.step (i := 9) rfl rfl ?_
            intro wcx hSc
            have hg9 : w6.heap.size ≤ wcx.heap.size := Below.size (hSc.1)
            have hn9 : g8 < wcx.heap.size := Four.lt (hSc.2)
            refine ⟨.pointer (some ⟨wcx.heap.size, 0, none⟩), wcx.alloc (.cells #[.int .u64 0, .int .u64 0, .int .u64 0, .int .u64 0] 24), .inl (by go_simp), (fun w' => Ext w6 w' ∧ Four w' g8 ∧ Four w' wcx.heap.size), ⟨Below.alloc (hSc.1) (Below.size (hSc.1)) _, Four.alloc (hSc.2) _, ⟨_, _, _, _, IsBlk.new _ _ _⟩⟩, fun w h => ⟨h.1, h.2.1⟩, ?_⟩
            generalize wcx.heap.size = g9 at *
            clear hSc
            (try simp only [Act.put, List.setIfInBounds_toArray, List.set_cons_zero, List.set_cons_succ])
            refine Held.one (i := 10) (by kernel_rfl) ?_
            · refine HeldOp.step (i := 10) rfl rfl ?_
              intro wcx hSc
              obtain ⟨c0, c1, c2, c3, hblk⟩ := hSc.2.1
              refine ⟨undef, ((((wcx.setCell ⟨g8, 0, none⟩ (.int .u64 (wd c 0 : Nat))).setCell ⟨g8, 1, none⟩ (.int .u64 (wd c 1 : Nat))).setCell ⟨g8, 2, none⟩ (.int .u64 (wd c 2 : Nat))).setCell ⟨g8, 3, none⟩ (.int .u64 (wd c 3 : Nat))), .inr ⟨?_, rfl⟩, (fun w' => Ext w6 w' ∧ IsBlk w' g8 24 #[.int .u64 (wd c 0 : Nat), .int .u64 (wd c 1 : Nat), .int .u64 (wd c 2 : Nat), .int .u64 (wd c 3 : Nat)] ∧ Four w' g9), ⟨bel4 hSc.1 hg8, stored4 hblk, Four.far4 (hSc.2.2) (by omega)⟩, fun w h => ⟨h.1, ⟨_, _, _, _, h.2.1⟩, h.2.2⟩, ?_⟩
              · have b0 := hblk.cell 0
                have b1 := hblk.cell 1
                have b2 := hblk.cell 2
                have b3 := hblk.cell 3
                simp at b0 b1 b2 b3
                have frb := hblk.free
                have ltb := hblk.lt
                go_simp
              clear hSc hblk
              (try simp only [Act.put, List.setIfInBounds_toArray, List.set_cons_zero, List.set_cons_succ])
              refine Held.one (i := 11) (by kernel_rfl) ?_
              · refine HeldOp.step (i := 11) rfl rfl ?_
                intro wcx hSc
                obtain ⟨c0, c1, c2, c3, hblk⟩ := hSc.2.2
                refine ⟨undef, ((((wcx.setCell ⟨g9, 0, none⟩ (.int .u64 (wd s 0 : Nat))).setCell ⟨g9, 1, none⟩ (.int .u64 (wd s 1 : Nat))).setCell ⟨g9, 2, none⟩ (.int .u64 (wd s 2 : Nat))).setCell ⟨g9, 3, none⟩ (.int .u64 (wd s 3 : Nat))), .inr ⟨?_, rfl⟩, (fun w' => Ext w6 w' ∧ IsBlk w' g8 24 #[.int .u64 (wd c 0 : Nat), .int .u64 (wd c 1 : Nat), .int .u64 (wd c 2 : Nat), .int .u64 (wd c 3 : Nat)] ∧ IsBlk w' g9 24 #[.int .u64 (wd s 0 : Nat), .int .u64 (wd s 1 : Nat), .int .u64 (wd s 2 : Nat), .int .u64 (wd s 3 : Nat)]), ⟨bel4 hSc.1 hg9, far4 (hSc.2.1) (by omega), stored4 hblk⟩, fun w h => ⟨h.1, h.2.1, ⟨_, _, _, _, h.2.2⟩⟩, ?_⟩
                · have b0 := hblk.cell 0
                  have b1 := hblk.cell 1
                  have b2 := hblk.cell 2
                  have b3 := hblk.cell 3
                  simp at b0 b1 b2 b3
                  have frb := hblk.free
                  have ltb := hblk.lt
                  go_simp
                clear hSc hblk
                (try simp only [Act.put, List.setIfInBounds_toArray, List.set_cons_zero, List.set_cons_succ])
                (first | (refine Held.skip (i := 12) rfl (by kernel_rfl) (fun _ _ _ h => h) rfl ?_; (try (try simp only [Act.put, List.setIfInBounds_toArray, List.set_cons_zero, List.set_cons_succ]))) | (refine Held.take (i := 12) (v := ?_) rfl (by kernel_rfl) (fun _ _ _ h => h) rfl ?_ ?_; rotate_left; (intro w hS; have hE := hS.1; have hx := HA.out.after hE; have x0 := hx.cell 0; have x1 := hx.cell 1; have x2 := hx.cell 2; have x3 := hx.cell 3; simp at x0 x1 x2 x3; go_simp; with_reducible rfl); (try (try simp only [Act.put, List.setIfInBounds_toArray, List.set_cons_zero, List.set_cons_succ]))))
                refine Held.done (by kernel_rfl) ?_
                intro wz hz
                have hne : g8 ≠ g9 := by omega
                go_wp2_with fail
                go_meet
                exact ⟨g8, g9, rfl, rfl, rfl, hne, hz.1, hz.2.1, hz.2.2⟩
        · refine HeldOp.step (i := 9) rfl rfl ?_
          intro wcx hSc
          have hg9 : w6.heap.size ≤ wcx.heap.size := Below.size (hSc.1)
          have hn9 : g8 < wcx.heap.size := Four.lt (hSc.2)
          refine ⟨.pointer (some ⟨wcx.heap.size, 0, none⟩), wcx.alloc (.cells #[.int .u64 0, .int .u64 0, .int .u64 0, .int .u64 0] 24), .inl (by go_simp), (fun w' => Ext w6 w' ∧ Four w' g8 ∧ Four w' wcx.heap.size), ⟨Below.alloc (hSc.1) (Below.size (hSc.1)) _, Four.alloc (hSc.2) _, ⟨_, _, _, _, IsBlk.new _ _ _⟩⟩, fun w h => ⟨h.1, h.2.1⟩, ?_⟩
          generalize wcx.heap.size = g9 at *
          clear hSc
          (try simp only [Act.put, List.setIfInBounds_toArray, List.set_cons_zero, List.set_cons_succ])
          refine Held.one (i := 3) (by kernel_rfl) ?_
          · refine HeldOp.call (i := 3) (f := ?_) (args := ?_) rfl rfl ?_ ?_
            rotate_left 2
            · (intro w hS; go_simp; (first | with_reducible rfl | (refine ⟨?_, ?_⟩ <;> with_reducible rfl)))
            intro wcx hSc
            (with_reducible refine (K7.out _).mono ?_)
            rintro e vc ⟨rfl, hb⟩
            refine ⟨_, rfl, (fun w' => Ext w6 w' ∧ Four w' g8 ∧ Four w' g9), ⟨bel_on hSc.1 hb, hSc.2.1.on hb, hSc.2.2.on hb⟩, fun w h => h, ?_⟩
            clear hSc hb
            (try simp only [Act.put, List.setIfInBounds_toArray, List.set_cons_zero, List.set_cons_succ])
            (first | (refine Held.skip (i := 4) rfl (by kernel_rfl) (fun _ _ _ h => h) rfl ?_; (try (try simp only [Act.put, List.setIfInBounds_toArray, List.set_cons_zero, List.set_cons_succ]))) | (refine Held.take (i := 4) (v := ?_) rfl (by kernel_rfl) (fun _ _ _ h => h) rfl ?_ ?_; rotate_left; (intro w hS; have hE := hS.1; have hx := HA.out.after hE; have x0 := hx.cell 0; have x1 := hx.cell 1; have x2 := hx.cell 2; have x3 := hx.cell 3; simp at x0 x1 x2 x3; go_simp; with_reducible rfl); (try (try simp only [Act.put, List.setIfInBounds_toArray, List.set_cons_zero, List.set_cons_succ]))))
            (first | (refine Held.skip (i := 5) rfl (by kernel_rfl) (fun _ _ _ h => h) rfl ?_; (try (try simp only [Act.put, List.setIfInBounds_toArray, List.set_cons_zero, List.set_cons_succ]))) | (refine Held.take (i := 5) (v := ?_) rfl (by kernel_rfl) (fun _ _ _ h => h) rfl ?_ ?_; rotate_left; (intro w hS; have hE := hS.1; have hx := HA.out.after hE; have x0 := hx.cell 0; have x1 := hx.cell 1; have x2 := hx.cell 2; have x3 := hx.cell 3; simp at x0 x1 x2 x3; go_simp; with_reducible rfl); (try (try simp only [Act.put, List.setIfInBounds_toArray, List.set_cons_zero, List.set_cons_succ]))))
            (first | (refine Held.skip (i := 6) rfl (by kernel_rfl) (fun _ _ _ h => h) rfl ?_; (try (try simp only [Act.put, List.setIfInBounds_toArray, List.set_cons_zero, List.set_cons_succ]))) | (refine Held.take (i := 6) (v := ?_) rfl (by kernel_rfl) (fun _ _ _ h => h) rfl ?_ ?_; rotate_left; (intro w hS; have hE := hS.1; have hx := HA.out.after hE; have x0 := hx.cell 0; have x1 := hx.cell 1; have x2 := hx.cell 2; have x3 := hx.cell 3; simp at x0 x1 x2 x3; go_simp; with_reducible rfl); (try (try simp only [Act.put, List.setIfInBounds_toArray, List.set_cons_zero, List.set_cons_succ]))))
            (first | (refine Held.skip (i := 7) rfl (by kernel_rfl) (fun _ _ _ h => h) rfl ?_; (try (try simp only [Act.put, List.setIfInBounds_toArray, List.set_cons_zero, List.set_cons_succ]))) | (refine Held.take (i := 7) (v := ?_) rfl (by kernel_rfl) (fun _ _ _ h => h) rfl ?_ ?_; rotate_left; (intro w hS; have hE := hS.1; have hx := HA.out.after hE; have x0 := hx.cell 0; have x1 := hx.cell 1; have x2 := hx.cell 2; have x3 := hx.cell 3; simp at x0 x1 x2 x3; go_simp; with_reducible rfl); (try (try simp only [Act.put, List.setIfInBounds_toArray, List.set_cons_zero, List.set_cons_succ]))))
            refine Held.one (i := 10) (by kernel_rfl) ?_
            · refine HeldOp.step (i := 10) rfl rfl ?_
              intro wcx hSc
              obtain ⟨c0, c1, c2, c3, hblk⟩ := hSc.2.1
              refine ⟨undef, ((((wcx.setCell ⟨g8, 0, none⟩ (.int .u64 (wd c 0 : Nat))).setCell ⟨g8, 1, none⟩ (.int .u64 (wd c 1 : Nat))).setCell ⟨g8, 2, none⟩ (.int .u64 (wd c 2 : Nat))).setCell ⟨g8, 3, none⟩ (.int .u64 (wd c 3 : Nat))), .inr ⟨?_, rfl⟩, (fun w' => Ext w6 w' ∧ IsBlk w' g8 24 #[.int .u64 (wd c 0 : Nat), .int .u64 (wd c 1 : Nat), .int .u64 (wd c 2 : Nat), .int .u64 (wd c 3 : Nat)] ∧ Four w' g9), ⟨bel4 hSc.1 hg8, stored4 hblk, Four.far4 (hSc.2.2) (by omega)⟩, fun w h => ⟨h.1, ⟨_, _, _, _, h.2.1⟩, h.2.2⟩, ?_⟩
              · have b0 := hblk.cell 0
                have b1 := hblk.cell 1
                have b2 := hblk.cell 2
                have b3 := hblk.cell 3
                simp at b0 b1 b2 b3
                have frb := hblk.free
                have ltb := hblk.lt
                go_simp
              clear hSc hblk
              (try simp only [Act.put, List.setIfInBounds_toArray, List.set_cons_zero, List.set_cons_succ])
              refine Held.one (i := 11) (by kernel_rfl) ?_
              · refine HeldOp.step (i := 11) rfl rfl ?_
                intro wcx hSc
                obtain ⟨c0, c1, c2, c3, hblk⟩ := hSc.2.2
                refine ⟨undef, ((((wcx.setCell ⟨g9, 0, none⟩ (.int .u64 (wd s 0 : Nat))).setCell ⟨g9, 1, none⟩ (.int .u64 (wd s 1 : Nat))).setCell ⟨g9, 2, none⟩ (.int .u64 (wd s 2 : Nat))).setCell ⟨g9, 3, none⟩ (.int .u64 (wd s 3 : Nat))), .inr ⟨?_, rfl⟩, (fun w' => Ext w6 w' ∧ IsBlk w' g8 24 #[.int .u64 (wd c 0 : Nat), .int .u64 (wd c 1 : Nat), .int .u64 (wd c 2 : Nat), .int .u64 (wd c 3 : Nat)] ∧ IsBlk w' g9 24 #[.int .u64 (wd s 0 : Nat), .int .u64 (wd s 1 : Nat), .int .u64 (wd s 2 : Nat), .int .u64 (wd s 3 : Nat)]), ⟨bel4 hSc.1 hg9, far4 (hSc.2.1) (by omega), stored4 hblk⟩, fun w h => ⟨h.1, h.2.1, ⟨_, _, _, _, h.2.2⟩⟩, ?_⟩
                · have b0 := hblk.cell 0
                  have b1 := hblk.cell 1
                  have b2 := hblk.cell 2
                  have b3 := hblk.cell 3
                  simp at b0 b1 b2 b3
                  have frb := hblk.free
                  have ltb := hblk.lt
                  go_simp
                clear hSc hblk
                (try simp only [Act.put, List.setIfInBounds_toArray, List.set_cons_zero, List.set_cons_succ])
                (first | (refine Held.skip (i := 12) rfl (by kernel_rfl) (fun _ _ _ h => h) rfl ?_; (try (try simp only [Act.put, List.setIfInBounds_toArray, List.set_cons_zero, List.set_cons_succ]))) | (refine Held.take (i := 12) (v := ?_) rfl (by kernel_rfl) (fun _ _ _ h => h) rfl ?_ ?_; rotate_left; (intro w hS; have hE := hS.1; have hx := HA.out.after hE; have x0 := hx.cell 0; have x1 := hx.cell 1; have x2 := hx.cell 2; have x3 := hx.cell 3; simp at x0 x1 x2 x3; go_simp; with_reducible rfl); (try (try simp only [Act.put, List.setIfInBounds_toArray, List.set_cons_zero, List.set_cons_succ]))))
                refine Held.done (by kernel_rfl) ?_
                intro wz hz
                have hne : g8 ≠ g9 := by omega
                go_wp2_with fail
                go_meet
                exact ⟨g8, g9, rfl, rfl, rfl, hne, hz.1, hz.2.1, hz.2.2⟩
      · refine HeldOp.step (i := 9) rfl rfl ?_
        intro wcx hSc
        have hg9 : w6.heap.size ≤ wcx.heap.size := Below.size (hSc)
        refine ⟨.pointer (some ⟨wcx.heap.size, 0, none⟩), wcx.alloc (.cells #[.int .u64 0, .int .u64 0, .int .u64 0, .int .u64 0] 24), .inl (by go_simp), (fun w' => Ext w6 w' ∧ Four w' wcx.heap.size), ⟨Below.alloc (hSc) (Below.size (hSc)) _, ⟨_, _, _, _, IsBlk.new _ _ _⟩⟩, fun w h => h.1, ?_⟩
        generalize wcx.heap.size = g9 at *
        clear hSc
        (try simp only [Act.put, List.setIfInBounds_toArray, List.set_cons_zero, List.set_cons_succ])
        refine Held.two (i := 3) (j := 8) (by kernel_rfl) ?_ ?_
        · refine HeldOp.call (i := 3) (f := ?_) (args := ?_) rfl rfl ?_ ?_
          rotate_left 2
          · (intro w hS; go_simp; (first | with_reducible rfl | (refine ⟨?_, ?_⟩ <;> with_reducible rfl)))
          intro wcx hSc
          (with_reducible refine (K7.out _).mono ?_)
          rintro e vc ⟨rfl, hb⟩
          refine ⟨_, rfl, (fun w' => Ext w6 w' ∧ Four w' g9), ⟨bel_on hSc.1 hb, hSc.2.on hb⟩, fun w h => h, ?_⟩
          clear hSc hb
          (try simp only [Act.put, List.setIfInBounds_toArray, List.set_cons_zero, List.set_cons_succ])
          (first | (refine Held.skip (i := 4) rfl (by kernel_rfl) (fun _ _ _ h => h) rfl ?_; (try (try simp only [Act.put, List.setIfInBounds_toArray, List.set_cons_zero, List.set_cons_succ]))) | (refine Held.take (i := 4) (v := ?_) rfl (by kernel_rfl) (fun _ _ _ h => h) rfl ?_ ?_; rotate_left; (intro w hS; have hE := hS.1; have hx := HA.out.after hE; have x0 := hx.cell 0; have x1 := hx.cell 1; have x2 := hx.cell 2; have x3 := hx.cell 3; simp at x0 x1 x2 x3; go_simp; with_reducible rfl); (try (try simp only [Act.put, List.setIfInBounds_toArray, List.set_cons_zero, List.set_cons_succ]))))
          (first | (refine Held.skip (i := 5) rfl (by kernel_rfl) (fun _ _ _ h => h) rfl ?_; (try (try simp only [Act.put, List.setIfInBounds_toArray, List.set_cons_zero, List.set_cons_succ]))) | (refine Held.take (i := 5) (v := ?_) rfl (by kernel_rfl) (fun _ _ _ h => h) rfl ?_ ?_; rotate_left; (intro w hS; have hE := hS.1; have hx := HA.out.after hE; have x0 := hx.cell 0; have x1 := hx.cell 1; have x2 := hx.cell 2; have x3 := hx.cell 3; simp at x0 x1 x2 x3; go_simp; with_reducible rfl); (try (try simp only [Act.put, List.setIfInBounds_toArray, List.set_cons_zero, List.set_cons_succ]))))
          (first | (refine Held.skip (i := 6) rfl (by kernel_rfl) (fun _ _ _ h => h) rfl ?_; (try (try simp only [Act.put, List.setIfInBounds_toArray, List.set_cons_zero, List.set_cons_succ]))) | (refine Held.take (i := 6) (v := ?_) rfl (by kernel_rfl) (fun _ _ _ h => h) rfl ?_ ?_; rotate_left; (intro w hS; have hE := hS.1; have hx := HA.out.after hE; have x0 := hx.cell 0; have x1 := hx.cell 1; have x2 := hx.cell 2; have x3 := hx.cell 3; simp at x0 x1 x2 x3; go_simp; with_reducible rfl); (try (try simp only [Act.put, List.setIfInBounds_toArray, List.set_cons_zero, List.set_cons_succ]))))
          (first | (refine Held.skip (i := 7) rfl (by kernel_rfl) (fun _ _ _ h => h) rfl ?_; (try (try simp only [Act.put, List.setIfInBounds_toArray, List.set_cons_zero, List.set_cons_succ]))) | (refine Held.take (i := 7) (v := ?_) rfl (by kernel_rfl) (fun _ _ _ h => h) rfl ?_ ?_; rotate_left; (intro w hS; have hE := hS.1; have hx := HA.out.after hE; have x0 := hx.cell 0; have x1 := hx.cell 1; have x2 := hx.cell 2; have x3 := hx.cell 3; simp at x0 x1 x2 x3; go_simp; with_reducible rfl); (try (try simp only [Act.put, List.setIfInBounds_toArray, List.set_cons_zero, List.set_cons_succ]))))
          refine Held.one (i := 8) (by kernel_rfl) ?_
          · refine HeldOp.step (i := 8) rfl rfl ?_
            intro wcx hSc
            have hg8 : w6.heap.size ≤ wcx.heap.size := Below.size (hSc.1)
            have hn8 : g9 < wcx.heap.size := Four.lt (hSc.2)
            refine ⟨.pointer (some ⟨wcx.heap.size, 0, none⟩), wcx.alloc (.cells #[.int .u64 0, .int .u64 0, .int .u64 0, .int .u64 0] 24), .inl (by go_simp), (fun w' => Ext w6 w' ∧ Four w' wcx.heap.size ∧ Four w' g9), ⟨Below.alloc (hSc.1) (Below.size (hSc.1)) _, ⟨_, _, _, _, IsBlk.new _ _ _⟩, Four.alloc (hSc.2) _⟩, fun w h => ⟨h.1, h.2.2⟩, ?_⟩
            generalize wcx.heap.size = g8 at *
            clear hSc
            (try simp only [Act.put, List.setIfInBounds_toArray, List.set_cons_zero, List.set_cons_succ])
            refine Held.one (i := 10) (by kernel_rfl) ?_
            · refine HeldOp.step (i := 10) rfl rfl ?_
              intro wcx hSc
              obtain ⟨c0, c1, c2, c3, hblk⟩ := hSc.2.1
              refine ⟨undef, ((((wcx.setCell ⟨g8, 0, none⟩ (.int .u64 (wd c 0 : Nat))).setCell ⟨g8, 1, none⟩ (.int .u64 (wd c 1 : Nat))).setCell ⟨g8, 2, none⟩ (.int .u64 (wd c 2 : Nat))).setCell ⟨g8, 3, none⟩ (.int .u64 (wd c 3 : Nat))), .inr ⟨?_, rfl⟩, (fun w' => Ext w6 w' ∧ IsBlk w' g8 24 #[.int .u64 (wd c 0 : Nat), .int .u64 (wd c 1 : Nat), .int .u64 (wd c 2 : Nat), .int .u64 (wd c 3 : Nat)] ∧ Four w' g9), ⟨bel4 hSc.1 hg8, stored4 hblk, Four.far4 (hSc.2.2) (by omega)⟩, fun w h => ⟨h.1, ⟨_, _, _, _, h.2.1⟩, h.2.2⟩, ?_⟩
              · have b0 := hblk.cell 0
                have b1 := hblk.cell 1
                have b2 := hblk.cell 2
                have b3 := hblk.cell 3
                simp at b0 b1 b2 b3
                have frb := hblk.free
                have ltb := hblk.lt
                go_simp
              clear hSc hblk
              (try simp only [Act.put, List.setIfInBounds_toArray, List.set_cons_zero, List.set_cons_succ])
              refine Held.one (i := 11) (by kernel_rfl) ?_
              · refine HeldOp.step (i := 11) rfl rfl ?_
                intro wcx hSc
                obtain ⟨c0, c1, c2, c3, hblk⟩ := hSc.2.2
                refine ⟨undef, ((((wcx.setCell ⟨g9, 0, none⟩ (.int .u64 (wd s 0 : Nat))).setCell ⟨g9, 1, none⟩ (.int .u64 (wd s 1 : Nat))).setCell ⟨g9, 2, none⟩ (.int .u64 (wd s 2 : Nat))).setCell ⟨g9, 3, none⟩ (.int .u64 (wd s 3 : Nat))), .inr ⟨?_, rfl⟩, (fun w' => Ext w6 w' ∧ IsBlk w' g8 24 #[.int .u64 (wd c 0 : Nat), .int .u64 (wd c 1 : Nat), .int .u64 (wd c 2 : Nat), .int .u64 (wd c 3 : Nat)] ∧ IsBlk w' g9 24 #[.int .u64 (wd s 0 : Nat), .int .u64 (wd s 1 : Nat), .int .u64 (wd s 2 : Nat), .int .u64 (wd s 3 : Nat)]), ⟨bel4 hSc.1 hg9, far4 (hSc.2.1) (by omega), stored4 hblk⟩, fun w h => ⟨h.1, h.2.1, ⟨_, _, _, _, h.2.2⟩⟩, ?_⟩
                · have b0 := hblk.cell 0
                  have b1 := hblk.cell 1
                  have b2 := hblk.cell 2
                  have b3 := hblk.cell 3
                  simp at b0 b1 b2 b3
                  have frb := hblk.free
                  have ltb := hblk.lt
                  go_simp
                clear hSc hblk
                (try simp only [Act.put, List.setIfInBounds_toArray, List.set_cons_zero, List.set_cons_succ])
                (first | (refine Held.skip (i := 12) rfl (by kernel_rfl) (fun _ _ _ h => h) rfl ?_; (try (try simp only [Act.put, List.setIfInBounds_toArray, List.set_cons_zero, List.set_cons_succ]))) | (refine Held.take (i := 12) (v := ?_) rfl (by kernel_rfl) (fun _ _ _ h => h) rfl ?_ ?_; rotate_left; (intro w hS; have hE := hS.1; have hx := HA.out.after hE; have x0 := hx.cell 0; have x1 := hx.cell 1; have x2 := hx.cell 2; have x3 := hx.cell 3; simp at x0 x1 x2 x3; go_simp; with_reducible rfl); (try (try simp only [Act.put, List.setIfInBounds_toArray, List.set_cons_zero, List.set_cons_succ]))))
                refine Held.done (by kernel_rfl) ?_
                intro wz hz
                have hne : g8 ≠ g9 := by omega
                go_wp2_with fail
                go_meet
                exact ⟨g8, g9, rfl, rfl, rfl, hne, hz.1, hz.2.1, hz.2.2⟩
        · refine HeldOp.step (i := 8) rfl rfl ?_
          intro wcx hSc
          have hg8 : w6.heap.size ≤ wcx.heap.size := Below.size (hSc.1)
          have hn8 : g9 < wcx.heap.size := Four.lt (hSc.2)
          refine ⟨.pointer (some ⟨wcx.heap.size, 0, none⟩), wcx.alloc (.cells #[.int .u64 0, .int .u64 0, .int .u64 0, .int .u64 0] 24), .inl (by go_simp), (fun w' => Ext w6 w' ∧ Four w' wcx.heap.size ∧ Four w' g9), ⟨Below.alloc (hSc.1) (Below.size (hSc.1)) _, ⟨_, _, _, _, IsBlk.new _ _ _⟩, Four.alloc (hSc.2) _⟩, fun w h => ⟨h.1, h.2.2⟩, ?_⟩
          generalize wcx.heap.size = g8 at *
          clear hSc
          (try simp only [Act.put, List.setIfInBounds_toArray, List.set_cons_zero, List.set_cons_succ])
          refine Held.one (i := 3) (by kernel_rfl) ?_
          · refine HeldOp.call (i := 3) (f := ?_) (args := ?_) rfl rfl ?_ ?_
            rotate_left 2
            · (intro w hS; go_simp; (first | with_reducible rfl | (refine ⟨?_, ?_⟩ <;> with_reducible rfl)))
            intro wcx hSc
            (with_reducible refine (K7.out _).mono ?_)
            rintro e vc ⟨rfl, hb⟩
            refine ⟨_, rfl, (fun w' => Ext w6 w' ∧ Four w' g8 ∧ Four w' g9), ⟨bel_on hSc.1 hb, hSc.2.1.on hb, hSc.2.2.on hb⟩, fun w h => h, ?_⟩
            clear hSc hb
            (try simp only [Act.put, List.setIfInBounds_toArray, List.set_cons_zero, List.set_cons_succ])
            (first | (refine Held.skip (i := 4) rfl (by kernel_rfl) (fun _ _ _ h => h) rfl ?_; (try (try simp only [Act.put, List.setIfInBounds_toArray, List.set_cons_zero, List.set_cons_succ]))) | (refine Held.take (i := 4) (v := ?_) rfl (by kernel_rfl) (fun _ _ _ h => h) rfl ?_ ?_; rotate_left; (intro w hS; have hE := hS.1; have hx := HA.out.after hE; have x0 := hx.cell 0; have x1 := hx.cell 1; have x2 := hx.cell 2; have x3 := hx.cell 3; simp at x0 x1 x2 x3; go_simp; with_reducible rfl); (try (try simp only [Act.put, List.setIfInBounds_toArray, List.set_cons_zero, List.set_cons_succ]))))
            (first | (refine Held.skip (i := 5) rfl (by kernel_rfl) (fun _ _ _ h => h) rfl ?_; (try (try simp only [Act.put, List.setIfInBounds_toArray, List.set_cons_zero, List.set_cons_succ]))) | (refine Held.take (i := 5) (v := ?_) rfl (by kernel_rfl) (fun _ _ _ h => h) rfl ?_ ?_; rotate_left; (intro w hS; have hE := hS.1; have hx := HA.out.after hE; have x0 := hx.cell 0; have x1 := hx.cell 1; have x2 := hx.cell 2; have x3 := hx.cell 3; simp at x0 x1 x2 x3; go_simp; with_reducible rfl); (try (try simp only [Act.put, List.setIfInBounds_toArray, List.set_cons_zero, List.set_cons_succ]))))
            (first | (refine Held.skip (i := 6) rfl (by kernel_rfl) (fun _ _ _ h => h) rfl ?_; (try (try simp only [Act.put, List.setIfInBounds_toArray, List.set_cons_zero, List.set_cons_succ]))) | (refine Held.take (i := 6) (v := ?_) rfl (by kernel_rfl) (fun _ _ _ h => h) rfl ?_ ?_; rotate_left; (intro w hS; have hE := hS.1; have hx := HA.out.after hE; have x0 := hx.cell 0; have x1 := hx.cell 1; have x2 := hx.cell 2; have x3 := hx.cell 3; simp at x0 x1 x2 x3; go_simp; with_reducible rfl); (try (try simp only [Act.put, List.setIfInBounds_toArray, List.set_cons_zero, List.set_cons_succ]))))
            (first | (refine Held.skip (i := 7) rfl (by kernel_rfl) (fun _ _ _ h => h) rfl ?_; (try (try simp only [Act.put, List.setIfInBounds_toArray, List.set_cons_zero, List.set_cons_succ]))) | (refine Held.take (i := 7) (v := ?_) rfl (by kernel_rfl) (fun _ _ _ h => h) rfl ?_ ?_; rotate_left; (intro w hS; have hE := hS.1; have hx := HA.out.after hE; have x0 := hx.cell 0; have x1 := hx.cell 1; have x2 := hx.cell 2; have x3 := hx.cell 3; simp at x0 x1 x2 x3; go_simp; with_reducible rfl); (try (try simp only [Act.put, List.setIfInBounds_toArray, List.set_cons_zero, List.set_cons_succ]))))
            refine Held.one (i := 10) (by kernel_rfl) ?_
            · refine HeldOp.step (i := 10) rfl rfl ?_
              intro wcx hSc
              obtain ⟨c0, c1, c2, c3, hblk⟩ := hSc.2.1
              refine ⟨undef, ((((wcx.setCell ⟨g8, 0, none⟩ (.int .u64 (wd c 0 : Nat))).setCell ⟨g8, 1, none⟩ (.int .u64 (wd c 1 : Nat))).setCell ⟨g8, 2, none⟩ (.int .u64 (wd c 2 : Nat))).setCell ⟨g8, 3, none⟩ (.int .u64 (wd c 3 : Nat))), .inr ⟨?_, rfl⟩, (fun w' => Ext w6 w' ∧ IsBlk w' g8 24 #[.int .u64 (wd c 0 : Nat), .int .u64 (wd c 1 : Nat), .int .u64 (wd c 2 : Nat), .int .u64 (wd c 3 : Nat)] ∧ Four w' g9), ⟨bel4 hSc.1 hg8, stored4 hblk, Four.far4 (hSc.2.2) (by omega)⟩, fun w h => ⟨h.1, ⟨_, _, _, _, h.2.1⟩, h.2.2⟩, ?_⟩
              · have b0 := hblk.cell 0
                have b1 := hblk.cell 1
                have b2 := hblk.cell 2
                have b3 := hblk.cell 3
                simp at b0 b1 b2 b3
                have frb := hblk.free
                have ltb := hblk.lt
                go_simp
              clear hSc hblk
              (try simp only [Act.put, List.setIfInBounds_toArray, List.set_cons_zero, List.set_cons_succ])
              refine Held.one (i := 11) (by kernel_rfl) ?_
              · refine HeldOp.step (i := 11) rfl rfl ?_
                intro wcx hSc
                obtain ⟨c0, c1, c2, c3, hblk⟩ := hSc.2.2
                refine ⟨undef, ((((wcx.setCell ⟨g9, 0, none⟩ (.int .u64 (wd s 0 : Nat))).setCell ⟨g9, 1, none⟩ (.int .u64 (wd s 1 : Nat))).setCell ⟨g9, 2, none⟩ (.int .u64 (wd s 2 : Nat))).setCell ⟨g9, 3, none⟩ (.int .u64 (wd s 3 : Nat))), .inr ⟨?_, rfl⟩, (fun w' => Ext w6 w' ∧ IsBlk w' g8 24 #[.int .u64 (wd c 0 : Nat), .int .u64 (wd c 1 : Nat), .int .u64 (wd c 2 : Nat), .int .u64 (wd c 3 : Nat)] ∧ IsBlk w' g9 24 #[.int .u64 (wd s 0 : Nat), .int .u64 (wd s 1 : Nat), .int .u64 (wd s 2 : Nat), .int .u64 (wd s 3 : Nat)]), ⟨bel4 hSc.1 hg9, far4 (hSc.2.1) (by omega), stored4 hblk⟩, fun w h => ⟨h.1, h.2.1, ⟨_, _, _, _, h.2.2⟩⟩, ?_⟩
                · have b0 := hblk.cell 0
                  have b1 := hblk.cell 1
                  have b2 := hblk.cell 2
                  have b3 := hblk.cell 3
                  simp at b0 b1 b2 b3
                  have frb := hblk.free
                  have ltb := hblk.lt
                  go_simp
                clear hSc hblk
                (try simp only [Act.put, List.setIfInBounds_toArray, List.set_cons_zero, List.set_cons_succ])
                (first | (refine Held.skip (i := 12) rfl (by kernel_rfl) (fun _ _ _ h => h) rfl ?_; (try (try simp only [Act.put, List.setIfInBounds_toArray, List.set_cons_zero, List.set_cons_succ]))) | (refine Held.take (i := 12) (v := ?_) rfl (by kernel_rfl) (fun _ _ _ h => h) rfl ?_ ?_; rotate_left; (intro w hS; have hE := hS.1; have hx := HA.out.after hE; have x0 := hx.cell 0; have x1 := hx.cell 1; have x2 := hx.cell 2; have x3 := hx.cell 3; simp at x0 x1 x2 x3; go_simp; with_reducible rfl); (try (try simp only [Act.put, List.setIfInBounds_toArray, List.set_cons_zero, List.set_cons_succ]))))
                refine Held.done (by kernel_rfl) ?_
                intro wz hz
                have hne : g8 ≠ g9 := by omega
                go_wp2_with fail
                go_meet
                exact ⟨g8, g9, rfl, rfl, rfl, hne, hz.1, hz.2.1, hz.2.2⟩
    · refine HeldOp.step (i := 8) rfl rfl ?_
      intro wcx hSc
      have hg8 : w6.heap.size ≤ wcx.heap.size := Below.size (hSc)
      refine ⟨.pointer (some ⟨wcx.heap.size, 0, none⟩), wcx.alloc (.cells #[.int .u64 0, .int .u64 0, .int .u64 0, .int .u64 0] 24), .inl (by go_simp), (fun w' => Ext w6 w' ∧ Four w' wcx.heap.size), ⟨Below.alloc (hSc) (Below.size (hSc)) _, ⟨_, _, _, _, IsBlk.new _ _ _⟩⟩, fun w h => h.1, ?_⟩
      generalize wcx.heap.size = g8 at *
      clear hSc
      (try simp only [Act.put, List.setIfInBounds_toArray, List.set_cons_zero, List.set_cons_succ])
      refine Held.two (i := 2) (j := 9) (by kernel_rfl) ?_ ?_
      · refine HeldOp.call (i := 2) (f := ?_) (args := ?_) rfl rfl ?_ ?_
        rotate_left 2
        · (intro w hS; go_simp; (first | with_reducible rfl | (refine ⟨?_, ?_⟩ <;> with_reducible rfl)))
        intro wcx hSc
        (with_reducible refine (K6.out _).mono ?_)
        rintro e vc ⟨rfl, hb⟩
        refine ⟨_, rfl, (fun w' => Ext w6 w' ∧ Four w' g8), ⟨bel_on hSc.1 hb, hSc.2.on hb⟩, fun w h => h, ?_⟩
        clear hSc hb
        (try simp only [Act.put, List.setIfInBounds_toArray, List.set_cons_zero, List.set_cons_succ])
        refine Held.two (i := 3) (j := 9) (by kernel_rfl) ?_ ?_
        · refine HeldOp.call (i := 3) (f := ?_) (args := ?_) rfl rfl ?_ ?_
          rotate_left 2
          · (intro w hS; go_simp; (first | with_reducible rfl | (refine ⟨?_, ?_⟩ <;> with_reducible rfl)))
          intro wcx hSc
          (with_reducible refine (K7.out _).mono ?_)
          rintro e vc ⟨rfl, hb⟩
          refine ⟨_, rfl, (fun w' => Ext w6 w' ∧ Four w' g8), ⟨bel_on hSc.1 hb, hSc.2.on hb⟩, fun w h => h, ?_⟩
          clear hSc hb
          (try simp only [Act.put, List.setIfInBounds_toArray, List.set_cons_zero, List.set_cons_succ])
          (first | (refine Held.skip (i := 4) rfl (by kernel_rfl) (fun _ _ _ h => h) rfl ?_; (try (try simp only [Act.put, List.setIfInBounds_toArray, List.set_cons_zero, List.set_cons_succ]))) | (refine Held.take (i := 4) (v := ?_) rfl (by kernel_rfl) (fun _ _ _ h => h) rfl ?_ ?_; rotate_left; (intro w hS; have hE := hS.1; have hx := HA.out.after hE; have x0 := hx.cell 0; have x1 := hx.cell 1; have x2 := hx.cell 2; have x3 := hx.cell 3; simp at x0 x1 x2 x3; go_simp; with_reducible rfl); (try (try simp only [Act.put, List.setIfInBounds_toArray, List.set_cons_zero, List.set_cons_succ]))))
          (first | (refine Held.skip (i := 5) rfl (by kernel_rfl) (fun _ _ _ h => h) rfl ?_; (try (try simp only [Act.put, List.setIfInBounds_toArray, List.set_cons_zero, List.set_cons_succ]))) | (refine Held.take (i := 5) (v := ?_) rfl (by kernel_rfl) (fun _ _ _ h => h) rfl ?_ ?_; rotate_left; (intro w hS; have hE := hS.1; have hx := HA.out.after hE; have x0 := hx.cell 0; have x1 := hx.cell 1; have x2 := hx.cell 2; have x3 := hx.cell 3; simp at x0 x1 x2 x3; go_simp; with_reducible rfl); (try (try simp only [Act.put, List.setIfInBounds_toArray, List.set_cons_zero, List.set_cons_succ]))))
          (first | (refine Held.skip (i := 6) rfl (by kernel_rfl) (fun _ _ _ h => h) rfl ?_; (try (try simp only [Act.put, List.setIfInBounds_toArray, List.set_cons_zero, List.set_cons_succ]))) | (refine Held.take (i := 6) (v := ?_) rfl (by kernel_rfl) (fun _ _ _ h => h) rfl ?_ ?_; rotate_left; (intro w hS; have hE := hS.1; have hx := HA.out.after hE; have x0 := hx.cell 0; have x1 := hx.cell 1; have x2 := hx.cell 2; have x3 := hx.cell 3; simp at x0 x1 x2 x3; go_simp; with_reducible rfl); (try (try simp only [Act.put, List.setIfInBounds_toArray, List.set_cons_zero, List.set_cons_succ]))))
          (first | (refine Held.skip (i := 7) rfl (by kernel_rfl) (fun _ _ _ h => h) rfl ?_; (try (try simp only [Act.put, List.setIfInBounds_toArray, List.set_cons_zero, List.set_cons_succ]))) | (refine Held.take (i := 7) (v := ?_) rfl (by kernel_rfl) (fun _ _ _ h => h) rfl ?_ ?_; rotate_left; (intro w hS; have hE := hS.1; have hx := HA.out.after hE; have x0 := hx.cell 0; have x1 := hx.cell 1; have x2 := hx.cell 2; have x3 := hx.cell 3; simp at x0 x1 x2 x3; go_simp; with_reducible rfl); (try (try simp only [Act.put, List.setIfInBounds_toArray, List.set_cons_zero, List.set_cons_succ]))))
          refine Held.one (i := 9) (by kernel_rfl) ?_
          · refine HeldOp.step (i := 9) rfl rfl ?_
            intro wcx hSc
            have hg9 : w6.heap.size ≤ wcx.heap.size := Below.size (hSc.1)
            have hn9 : g8 < wcx.heap.size := Four.lt (hSc.2)
            refine ⟨.pointer (some ⟨wcx.heap.size, 0, none⟩), wcx.alloc (.cells #[.int .u64 0, .int .u64 0, .int .u64 0, .int .u64 0] 24), .inl (by go_simp), (fun w' => Ext w6 w' ∧ Four w' g8 ∧ Four w' wcx.heap.size), ⟨Below.alloc (hSc.1) (Below.size (hSc.1)) _, Four.alloc (hSc.2) _, ⟨_, _, _, _, IsBlk.new _ _ _⟩⟩, fun w h => ⟨h.1, h.2.1⟩, ?_⟩
            generalize wcx.heap.size = g9 at *
            clear hSc
            (try simp only [Act.put, List.setIfInBounds_toArray, List.set_cons_zero, List.set_cons_succ])
            refine Held.one (i := 10) (by kernel_rfl) ?_
            · refine HeldOp.step (i := 10) rfl rfl ?_
              intro wcx hSc
              obtain ⟨c0, c1, c2, c3, hblk⟩ := hSc.2.1
              refine ⟨undef, ((((wcx.setCell ⟨g8, 0, none⟩ (.int .u64 (wd c 0 : Nat))).setCell ⟨g8, 1, none⟩ (.int .u64 (wd c 1 : Nat))).setCell ⟨g8, 2, none⟩ (.int .u64 (wd c 2 : Nat))).setCell ⟨g8, 3, none⟩ (.int .u64 (wd c 3 : Nat))), .inr ⟨?_, rfl⟩, (fun w' => Ext w6 w' ∧ IsBlk w' g8 24 #[.int .u64 (wd c 0 : Nat), .int .u64 (wd c 1 : Nat), .int .u64 (wd c 2 : Nat), .int .u64 (wd c 3 : Nat)] ∧ Four w' g9), ⟨bel4 hSc.1 hg8, stored4 hblk, Four.far4 (hSc.2.2) (by omega)⟩, fun w h => ⟨h.1, ⟨_, _, _, _, h.2.1⟩, h.2.2⟩, ?_⟩
              · have b0 := hblk.cell 0
                have b1 := hblk.cell 1
                have b2 := hblk.cell 2
                have b3 := hblk.cell 3
                simp at b0 b1 b2 b3
                have frb := hblk.free
                have ltb := hblk.lt
                go_simp
              clear hSc hblk
              (try simp only [Act.put, List.setIfInBounds_toArray, List.set_cons_zero, List.set_cons_succ])
              refine Held.one (i := 11) (by kernel_rfl) ?_
              · refine HeldOp.step (i := 11) rfl rfl ?_
                intro wcx hSc
                obtain ⟨c0, c1, c2, c3, hblk⟩ := hSc.2.2
                refine ⟨undef, ((((wcx.setCell ⟨g9, 0, none⟩ (.int .u64 (wd s 0 : Nat))).setCell ⟨g9, 1, none⟩ (.int .u64 (wd s 1 : Nat))).setCell ⟨g9, 2, none⟩ (.int .u64 (wd s 2 : Nat))).setCell ⟨g9, 3, none⟩ (.int .u64 (wd s 3 : Nat))), .inr ⟨?_, rfl⟩, (fun w' => Ext w6 w' ∧ IsBlk w' g8 24 #[.int .u64 (wd c 0 : Nat), .int .u64 (wd c 1 : Nat), .int .u64 (wd c 2 : Nat), .int .u64 (wd c 3 : Nat)] ∧ IsBlk w' g9 24 #[.int .u64 (wd s 0 : Nat), .int .u64 (wd s 1 : Nat), .int .u64 (wd s 2 : Nat), .int .u64 (wd s 3 : Nat)]), ⟨bel4 hSc.1 hg9, far4 (hSc.2.1) (by omega), stored4 hblk⟩, fun w h => ⟨h.1, h.2.1, ⟨_, _, _, _, h.2.2⟩⟩, ?_⟩
                · have b0 := hblk.cell 0
                  have b1 := hblk.cell 1
                  have b2 := hblk.cell 2
                  have b3 := hblk.cell 3
                  simp at b0 b1 b2 b3
                  have frb := hblk.free
                  have ltb := hblk.lt
                  go_simp
                clear hSc hblk
                (try simp only [Act.put, List.setIfInBounds_toArray, List.set_cons_zero, List.set_cons_succ])
                (first | (refine Held.skip (i := 12) rfl (by kernel_rfl) (fun _ _ _ h => h) rfl ?_; (try (try simp only [Act.put, List.setIfInBounds_toArray, List.set_cons_zero, List.set_cons_succ]))) | (refine Held.take (i := 12) (v := ?_) rfl (by kernel_rfl) (fun _ _ _ h => h) rfl ?_ ?_; rotate_left; (intro w hS; have hE := hS.1; have hx := HA.out.after hE; have x0 := hx.cell 0; have x1 := hx.cell 1; have x2 := hx.cell 2; have x3 := hx.cell 3; simp at x0 x1 x2 x3; go_simp; with_reducible rfl); (try (try simp only [Act.put, List.setIfInBounds_toArray, List.set_cons_zero, List.set_cons_succ]))))
                refine Held.done (by kernel_rfl) ?_
                intro wz hz
                have hne : g8 ≠ g9 := by omega
                go_wp2_with fail
                go_meet
                exact ⟨g8, g9, rfl, rfl, rfl, hne, hz.1, hz.2.1, hz.2.2⟩
        · refine HeldOp.step (i := 9) rfl rfl ?_
          intro wcx hSc
          have hg9 : w6.heap.size ≤ wcx.heap.size := Below.size (hSc.1)
          have hn9 : g8 < wcx.heap.size := Four.lt (hSc.2)
          refine ⟨.pointer (some ⟨wcx.heap.size, 0, none⟩), wcx.alloc (.cells #[.int .u64 0, .int .u64 0, .int .u64 0, .int .u64 0] 24), .inl (by go_simp), (fun w' => Ext w6 w' ∧ Four w' g8 ∧ Four w' wcx.heap.size), ⟨Below.alloc (hSc.1) (Below.size (hSc.1)) _, Four.alloc (hSc.2) _, ⟨_, _, _, _, IsBlk.new _ _ _⟩⟩, fun w h => ⟨h.1, h.2.1⟩, ?_⟩
          generalize wcx.heap.size = g9 at *
          clear hSc
          (try simp only [Act.put, List.setIfInBounds_toArray, List.set_cons_zero, List.set_cons_succ])
          refine Held.one (i := 3) (by kernel_rfl) ?_
          · refine HeldOp.call (i := 3) (f := ?_) (args := ?_) rfl rfl ?_ ?_
            rotate_left 2
            · (intro w hS; go_simp; (first | with_reducible rfl | (refine ⟨?_, ?_⟩ <;> with_reducible rfl)))
            intro wcx hSc
            (with_reducible refine (K7.out _).mono ?_)
            rintro e vc ⟨rfl, hb⟩
            refine ⟨_, rfl, (fun w' => Ext w6 w' ∧ Four w' g8 ∧ Four w' g9), ⟨bel_on hSc.1 hb, hSc.2.1.on hb, hSc.2.2.on hb⟩, fun w h => h, ?_⟩
            clear hSc hb
            (try simp only [Act.put, List.setIfInBounds_toArray, List.set_cons_zero, List.set_cons_succ])
            (first | (refine Held.skip (i := 4) rfl (by kernel_rfl) (fun _ _ _ h => h) rfl ?_; (try (try simp only [Act.put, List.setIfInBounds_toArray, List.set_cons_zero, List.set_cons_succ]))) | (refine Held.take (i := 4) (v := ?_) rfl (by kernel_rfl) (fun _ _ _ h => h) rfl ?_ ?_; rotate_left; (intro w hS; have hE := hS.1; have hx := HA.out.after hE; have x0 := hx.cell 0; have x1 := hx.cell 1; have x2 := hx.cell 2; have x3 := hx.cell 3; simp at x0 x1 x2 x3; go_simp; with_reducible rfl); (try (try simp only [Act.put, List.setIfInBounds_toArray, List.set_cons_zero, List.set_cons_succ]))))
            (first | (refine Held.skip (i := 5) rfl (by kernel_rfl) (fun _ _ _ h => h) rfl ?_; (try (try simp only [Act.put, List.setIfInBounds_toArray, List.set_cons_zero, List.set_cons_succ]))) | (refine Held.take (i := 5) (v := ?_) rfl (by kernel_rfl) (fun _ _ _ h => h) rfl ?_ ?_; rotate_left; (intro w hS; have hE := hS.1; have hx := HA.out.after hE; have x0 := hx.cell 0; have x1 := hx.cell 1; have x2 := hx.cell 2; have x3 := hx.cell 3; simp at x0 x1 x2 x3; go_simp; with_reducible rfl); (try (try simp only [Act.put, List.setIfInBounds_toArray, List.set_cons_zero, List.set_cons_succ]))))
            (first | (refine Held.skip (i := 6) rfl (by kernel_rfl) (fun _ _ _ h => h) rfl ?_; (try (try simp only [Act.put, List.setIfInBounds_toArray, List.set_cons_zero, List.set_cons_succ]))) | (refine Held.take (i := 6) (v := ?_) rfl (by kernel_rfl) (fun _ _ _ h => h) rfl ?_ ?_; rotate_left; (intro w hS; have hE := hS.1; have hx := HA.out.after hE; have x0 := hx.cell 0; have x1 := hx.cell 1; have x2 := hx.cell 2; have x3 := hx.cell 3; simp at x0 x1 x2 x3; go_simp; with_reducible rfl); (try (try simp only [Act.put, List.setIfInBounds_toArray, List.set_cons_zero, List.set_cons_succ]))))
            (first | (refine Held.skip (i := 7) rfl (by kernel_rfl) (fun _ _ _ h => h) rfl ?_; (try (try simp only [Act.put, List.setIfInBounds_toArray, List.set_cons_zero, List.set_cons_succ]))) | (refine Held.take (i := 7) (v := ?_) rfl (by kernel_rfl) (fun _ _ _ h => h) rfl ?_ ?_; rotate_left; (intro w hS; have hE := hS.1; have hx := HA.out.after hE; have x0 := hx.cell 0; have x1 := hx.cell 1; have x2 := hx.cell 2; have x3 := hx.cell 3; simp at x0 x1 x2 x3; go_simp; with_reducible rfl); (try (try simp only [Act.put, List.setIfInBounds_toArray, List.set_cons_zero, List.set_cons_succ]))))
            refine Held.one (i := 10) (by kernel_rfl) ?_
            · refine HeldOp.step (i := 10) rfl rfl ?_
              intro wcx hSc
              obtain ⟨c0, c1, c2, c3, hblk⟩ := hSc.2.1
              refine ⟨undef, ((((wcx.setCell ⟨g8, 0, none⟩ (.int .u64 (wd c 0 : Nat))).setCell ⟨g8, 1, none⟩ (.int .u64 (wd c 1 : Nat))).setCell ⟨g8, 2, none⟩ (.int .u64 (wd c 2 : Nat))).setCell ⟨g8, 3, none⟩ (.int .u64 (wd c 3 : Nat))), .inr ⟨?_, rfl⟩, (fun w' => Ext w6 w' ∧ IsBlk w' g8 24 #[.int .u64 (wd c 0 : Nat), .int .u64 (wd c 1 : Nat), .int .u64 (wd c 2 : Nat), .int .u64 (wd c 3 : Nat)] ∧ Four w' g9), ⟨bel4 hSc.1 hg8, stored4 hblk, Four.far4 (hSc.2.2) (by omega)⟩, fun w h => ⟨h.1, ⟨_, _, _, _, h.2.1⟩, h.2.2⟩, ?_⟩
              · have b0 := hblk.cell 0
                have b1 := hblk.cell 1
                have b2 := hblk.cell 2
                have b3 := hblk.cell 3
                simp at b0 b1 b2 b3
                have frb := hblk.free
                have ltb := hblk.lt
                go_simp
              clear hSc hblk
              (try simp only [Act.put, List.setIfInBounds_toArray, List.set_cons_zero, List.set_cons_succ])
              refine Held.one (i := 11) (by kernel_rfl) ?_
              · refine HeldOp.step (i := 11) rfl rfl ?_
                intro wcx hSc
                obtain ⟨c0, c1, c2, c3, hblk⟩ := hSc.2.2
                refine ⟨undef, ((((wcx.setCell ⟨g9, 0, none⟩ (.int .u64 (wd s 0 : Nat))).setCell ⟨g9, 1, none⟩ (.int .u64 (wd s 1 : Nat))).setCell ⟨g9, 2, none⟩ (.int .u64 (wd s 2 : Nat))).setCell ⟨g9, 3, none⟩ (.int .u64 (wd s 3 : Nat))), .inr ⟨?_, rfl⟩, (fun w' => Ext w6 w' ∧ IsBlk w' g8 24 #[.int .u64 (wd c 0 : Nat), .int .u64 (wd c 1 : Nat), .int .u64 (wd c 2 : Nat), .int .u64 (wd c 3 : Nat)] ∧ IsBlk w' g9 24 #[.int .u64 (wd s 0 : Nat), .int .u64 (wd s 1 : Nat), .int .u64 (wd s 2 : Nat), .int .u64 (wd s 3 : Nat)]), ⟨bel4 hSc.1 hg9, far4 (hSc.2.1) (by omega), stored4 hblk⟩, fun w h => ⟨h.1, h.2.1, ⟨_, _, _, _, h.2.2⟩⟩, ?_⟩
                · have b0 := hblk.cell 0
                  have b1 := hblk.cell 1
                  have b2 := hblk.cell 2
                  have b3 := hblk.cell 3
                  simp at b0 b1 b2 b3
                  have frb := hblk.free
                  have ltb := hblk.lt
                  go_simp
                clear hSc hblk
                (try simp only [Act.put, List.setIfInBounds_toArray, List.set_cons_zero, List.set_cons_succ])
                (first | (refine Held.skip (i := 12) rfl (by kernel_rfl) (fun _ _ _ h => h) rfl ?_; (try (try simp only [Act.put, List.setIfInBounds_toArray, List.set_cons_zero, List.set_cons_succ]))) | (refine Held.take (i := 12) (v := ?_) rfl (by kernel_rfl) (fun _ _ _ h => h) rfl ?_ ?_; rotate_left; (intro w hS; have hE := hS.1; have hx := HA.out.after hE; have x0 := hx.cell 0; have x1 := hx.cell 1; have x2 := hx.cell 2; have x3 := hx.cell 3; simp at x0 x1 x2 x3; go_simp; with_reducible rfl); (try (try simp only [Act.put, List.setIfInBounds_toArray, List.set_cons_zero, List.set_cons_succ]))))
                refine Held.done (by kernel_rfl) ?_
                intro wz hz
                have hne : g8 ≠ g9 := by omega
                go_wp2_with fail
                go_meet
                exact ⟨g8, g9, rfl, rfl, rfl, hne, hz.1, hz.2.1, hz.2.2⟩
      · refine HeldOp.step (i := 9) rfl rfl ?_
        intro wcx hSc
        have hg9 : w6.heap.size ≤ wcx.heap.size := Below.size (hSc.1)
        have hn9 : g8 < wcx.heap.size := Four.lt (hSc.2)
        refine ⟨.pointer (some ⟨wcx.heap.size, 0, none⟩), wcx.alloc (.cells #[.int .u64 0, .int .u64 0, .int .u64 0, .int .u64 0] 24), .inl (by go_simp), (fun w' => Ext w6 w' ∧ Four w' g8 ∧ Four w' wcx.heap.size), ⟨Below.alloc (hSc.1) (Below.size (hSc.1)) _, Four.alloc (hSc.2) _, ⟨_, _, _, _, IsBlk.new _ _ _⟩⟩, fun w h => ⟨h.1, h.2.1⟩, ?_⟩
        generalize wcx.heap.size = g9 at *
        clear hSc
        (try simp only [Act.put, List.setIfInBounds_toArray, List.set_cons_zero, List.set_cons_succ])
        refine Held.one (i := 2) (by kernel_rfl) ?_
        · refine HeldOp.call (i := 2) (f := ?_) (args := ?_) rfl rfl ?_ ?_
          rotate_left 2
          · (intro w hS; go_simp; (first | with_reducible rfl | (refine ⟨?_, ?_⟩ <;> with_reducible rfl)))
          intro wcx hSc
          (with_reducible refine (K6.out _).mono ?_)
          rintro e vc ⟨rfl, hb⟩
          refine ⟨_, rfl, (fun w' => Ext w6 w' ∧ Four w' g8 ∧ Four w' g9), ⟨bel_on hSc.1 hb, hSc.2.1.on hb, hSc.2.2.on hb⟩, fun w h => h, ?_⟩
          clear hSc hb
          (try simp only [Act.put, List.setIfInBounds_toArray, List.set_cons_zero, List.set_cons_succ])
          refine Held.one (i := 3) (by kernel_rfl) ?_
          · refine HeldOp.call (i := 3) (f := ?_) (args := ?_) rfl rfl ?_ ?_
            rotate_left 2
            · (intro w hS; go_simp; (first | with_reducible rfl | (refine ⟨?_, ?_⟩ <;> with_reducible rfl)))
            intro wcx hSc
            (with_reducible refine (K7.out _).mono ?_)
            rintro e vc ⟨rfl, hb⟩
            refine ⟨_, rfl, (fun w' => Ext w6 w' ∧ Four w' g8 ∧ Four w' g9), ⟨bel_on hSc.1 hb, hSc.2.1.on hb, hSc.2.2.on hb⟩, fun w h => h, ?_⟩
            clear hSc hb
            (try simp only [Act.put, List.setIfInBounds_toArray, List.set_cons_zero, List.set_cons_succ])
            (first | (refine Held.skip (i := 4) rfl (by kernel_rfl) (fun _ _ _ h => h) rfl ?_; (try (try simp only [Act.put, List.setIfInBounds_toArray, List.set_cons_zero, List.set_cons_succ]))) | (refine Held.take (i := 4) (v := ?_) rfl (by kernel_rfl) (fun _ _ _ h => h) rfl ?_ ?_; rotate_left; (intro w hS; have hE := hS.1; have hx := HA.out.after hE; have x0 := hx.cell 0; have x1 := hx.cell 1; have x2 := hx.cell 2; have x3 := hx.cell 3; simp at x0 x1 x2 x3; go_simp; with_reducible rfl); (try (try simp only [Act.put, List.setIfInBounds_toArray, List.set_cons_zero, List.set_cons_succ]))))
            (first | (refine Held.skip (i := 5) rfl (by kernel_rfl) (fun _ _ _ h => h) rfl ?_; (try (try simp only [Act.put, List.setIfInBounds_toArray, List.set_cons_zero, List.set_cons_succ]))) | (refine Held.take (i := 5) (v := ?_) rfl (by kernel_rfl) (fun _ _ _ h => h) rfl ?_ ?_; rotate_left; (intro w hS; have hE := hS.1; have hx := HA.out.after hE; have x0 := hx.cell 0; have x1 := hx.cell 1; have x2 := hx.cell 2; have x3 := hx.cell 3; simp at x0 x1 x2 x3; go_simp; with_reducible rfl); (try (try simp only [Act.put, List.setIfInBounds_toArray, List.set_cons_zero, List.set_cons_succ]))))
            (first | (refine Held.skip (i := 6) rfl (by kernel_rfl) (fun _ _ _ h => h) rfl ?_; (try (try simp only [Act.put, List.setIfInBounds_toArray, List.set_cons_zero, List.set_cons_succ]))) | (refine Held.take (i := 6) (v := ?_) rfl (by kernel_rfl) (fun _ _ _ h => h) rfl ?_ ?_; rotate_left; (intro w hS; have hE := hS.1; have hx := HA.out.after hE; have x0 := hx.cell 0; have x1 := hx.cell 1; have x2 := hx.cell 2; have x3 := hx.cell 3; simp at x0 x1 x2 x3; go_simp; with_reducible rfl); (try (try simp only [Act.put, List.setIfInBounds_toArray, List.set_cons_zero, List.set_cons_succ]))))
            (first | (refine Held.skip (i := 7) rfl (by kernel_rfl) (fun _ _ _ h => h) rfl ?_; (try (try simp only [Act.put, List.setIfInBounds_toArray, List.set_cons_zero, List.set_cons_succ]))) | (refine Held.take (i := 7) (v := ?_) rfl (by kernel_rfl) (fun _ _ _ h => h) rfl ?_ ?_; rotate_left; (intro w hS; have hE := hS.1; have hx := HA.out.after hE; have x0 := hx.cell 0; have x1 := hx.cell 1; have x2 := hx.cell 2; have x3 := hx.cell 3; simp at x0 x1 x2 x3; go_simp; with_reducible rfl); (try (try simp only [Act.put, List.setIfInBounds_toArray, List.set_cons_zero, List.set_cons_succ]))))
            refine Held.one (i := 10) (by kernel_rfl) ?_
            · refine HeldOp.step (i := 10) rfl rfl ?_
              intro wcx hSc
              obtain ⟨c0, c1, c2, c3, hblk⟩ := hSc.2.1
              refine ⟨undef, ((((wcx.setCell ⟨g8, 0, none⟩ (.int .u64 (wd c 0 : Nat))).setCell ⟨g8, 1, none⟩ (.int .u64 (wd c 1 : Nat))).setCell ⟨g8, 2, none⟩ (.int .u64 (wd c 2 : Nat))).setCell ⟨g8, 3, none⟩ (.int .u64 (wd c 3 : Nat))), .inr ⟨?_, rfl⟩, (fun w' => Ext w6 w' ∧ IsBlk w' g8 24 #[.int .u64 (wd c 0 : Nat), .int .u64 (wd c 1 : Nat), .int .u64 (wd c 2 : Nat), .int .u64 (wd c 3 : Nat)] ∧ Four w' g9), ⟨bel4 hSc.1 hg8, stored4 hblk, Four.far4 (hSc.2.2) (by omega)⟩, fun w h => ⟨h.1, ⟨_, _, _, _, h.2.1⟩, h.2.2⟩, ?_⟩
              · have b0 := hblk.cell 0
                have b1 := hblk.cell 1
                have b2 := hblk.cell 2
                have b3 := hblk.cell 3
                simp at b0 b1 b2 b3
                have frb := hblk.free
                have ltb := hblk.lt
                go_simp
              clear hSc hblk
              (try simp only [Act.put, List.setIfInBounds_toArray, List.set_cons_zero, List.set_cons_succ])
              refine Held.one (i := 11) (by kernel_rfl) ?_
              · refine HeldOp.step (i := 11) rfl rfl ?_
                intro wcx hSc
                obtain ⟨c0, c1, c2, c3, hblk⟩ := hSc.2.2
                refine ⟨undef, ((((wcx.setCell ⟨g9, 0, none⟩ (.int .u64 (wd s 0 : Nat))).setCell ⟨g9, 1, none⟩ (.int .u64 (wd s 1 : Nat))).setCell ⟨g9, 2, none⟩ (.int .u64 (wd s 2 : Nat))).setCell ⟨g9, 3, none⟩ (.int .u64 (wd s 3 : Nat))), .inr ⟨?_, rfl⟩, (fun w' => Ext w6 w' ∧ IsBlk w' g8 24 #[.int .u64 (wd c 0 : Nat), .int .u64 (wd c 1 : Nat), .int .u64 (wd c 2 : Nat), .int .u64 (wd c 3 : Nat)] ∧ IsBlk w' g9 24 #[.int .u64 (wd s 0 : Nat), .int .u64 (wd s 1 : Nat), .int .u64 (wd s 2 : Nat), .int .u64 (wd s 3 : Nat)]), ⟨bel4 hSc.1 hg9, far4 (hSc.2.1) (by omega), stored4 hblk⟩, fun w h => ⟨h.1, h.2.1, ⟨_, _, _, _, h.2.2⟩⟩, ?_⟩
                · have b0 := hblk.cell 0
                  have b1 := hblk.cell 1
                  have b2 := hblk.cell 2
                  have b3 := hblk.cell 3
                  simp at b0 b1 b2 b3
                  have frb := hblk.free
                  have ltb := hblk.lt
                  go_simp
                clear hSc hblk
                (try simp only [Act.put, List.setIfInBounds_toArray, List.set_cons_zero, List.set_cons_succ])
                (first | (refine Held.skip (i := 12) rfl (by kernel_rfl) (fun _ _ _ h => h) rfl ?_; (try (try simp only [Act.put, List.setIfInBounds_toArray, List.set_cons_zero, List.set_cons_succ]))) | (refine Held.take (i := 12) (v := ?_) rfl (by kernel_rfl) (fun _ _ _ h => h) rfl ?_ ?_; rotate_left; (intro w hS; have hE := hS.1; have hx := HA.out.after hE; have x0 := hx.cell 0; have x1 := hx.cell 1; have x2 := hx.cell 2; have x3 := hx.cell 3; simp at x0 x1 x2 x3; go_simp; with_reducible rfl); (try (try simp only [Act.put, List.setIfInBounds_toArray, List.set_cons_zero, List.set_cons_succ]))))
                refine Held.done (by kernel_rfl) ?_
                intro wz hz
                have hne : g8 ≠ g9 := by omega
                go_wp2_with fail
                go_meet
                exact ⟨g8, g9, rfl, rfl, rfl, hne, hz.1, hz.2.1, hz.2.2⟩
    · refine HeldOp.step (i := 9) rfl rfl ?_
      intro wcx hSc
      have hg9 : w6.heap.size ≤ wcx.heap.size := Below.size (hSc)
      refine ⟨.pointer (some ⟨wcx.heap.size, 0, none⟩), wcx.alloc (.cells #[.int .u64 0, .int .u64 0, .int .u64 0, .int .u64 0] 24), .inl (by go_simp), (fun w' => Ext w6 w' ∧ Four w' wcx.heap.size), ⟨Below.alloc (hSc) (Below.size (hSc)) _, ⟨_, _, _, _, IsBlk.new _ _ _⟩⟩, fun w h => h.1, ?_⟩
      generalize wcx.heap.size = g9 at *
      clear hSc
      (try simp only [Act.put, List.setIfInBounds_toArray, List.set_cons_zero, List.set_cons_succ])
      refine Held.two (i := 2) (j := 8) (by kernel_rfl) ?_ ?_
      · refine HeldOp.call (i := 2) (f := ?_) (args := ?_) rfl rfl ?_ ?_
        rotate_left 2
        · (intro w hS; go_simp; (first | with_reducible rfl | (refine ⟨?_, ?_⟩ <;> with_reducible rfl)))
        intro wcx hSc
        (with_reducible refine (K6.out _).mono ?_)
        rintro e vc ⟨rfl, hb⟩
        refine ⟨_, rfl, (fun w' => Ext w6 w' ∧ Four w' g9), ⟨bel_on hSc.1 hb, hSc.2.on hb⟩, fun w h => h, ?_⟩
        clear hSc hb
        (try simp only [Act.put, List.setIfInBounds_toArray, List.set_cons_zero, List.set_cons_succ])
        refine Held.two (i := 3) (j := 8) (by kernel_rfl) ?_ ?_
        · refine HeldOp.call (i := 3) (f := ?_) (args := ?_) rfl rfl ?_ ?_
          rotate_left 2
          · (intro w hS; go_simp; (first | with_reducible rfl | (refine ⟨?_, ?_⟩ <;> with_reducible rfl)))
          intro wcx hSc
          (with_reducible refine (K7.out _).mono ?_)
          rintro e vc ⟨rfl, hb⟩
          refine ⟨_, rfl, (fun w' => Ext w6 w' ∧ Four w' g9), ⟨bel_on hSc.1 hb, hSc.2.on hb⟩, fun w h => h, ?_⟩
          clear hSc hb
          (try simp only [Act.put, List.setIfInBounds_toArray, List.set_cons_zero, List.set_cons_succ])
          (first | (refine Held.skip (i := 4) rfl (by kernel_rfl) (fun _ _ _ h => h) rfl ?_; (try (try simp only [Act.put, List.setIfInBounds_toArray, List.set_cons_zero, List.set_cons_succ]))) | (refine Held.take (i := 4) (v := ?_) rfl (by kernel_rfl) (fun _ _ _ h => h) rfl ?_ ?_; rotate_left; (intro w hS; have hE := hS.1; have hx := HA.out.after hE; have x0 := hx.cell 0; have x1 := hx.cell 1; have x2 := hx.cell 2; have x3 := hx.cell 3; simp at x0 x1 x2 x3; go_simp; with_reducible rfl); (try (try simp only [Act.put, List.setIfInBounds_toArray, List.set_cons_zero, List.set_cons_succ]))))
          (first | (refine Held.skip (i := 5) rfl (by kernel_rfl) (fun _ _ _ h => h) rfl ?_; (try (try simp only [Act.put, List.setIfInBounds_toArray, List.set_cons_zero, List.set_cons_succ]))) | (refine Held.take (i := 5) (v := ?_) rfl (by kernel_rfl) (fun _ _ _ h => h) rfl ?_ ?_; rotate_left; (intro w hS; have hE := hS.1; have hx := HA.out.after hE; have x0 := hx.cell 0; have x1 := hx.cell 1; have x2 := hx.cell 2; have x3 := hx.cell 3; simp at x0 x1 x2 x3; go_simp; with_reducible rfl); (try (try simp only [Act.put, List.setIfInBounds_toArray, List.set_cons_zero, List.set_cons_succ]))))
          (first | (refine Held.skip (i := 6) rfl (by kernel_rfl) (fun _ _ _ h => h) rfl ?_; (try (try simp only [Act.put, List.setIfInBounds_toArray, List.set_cons_zero, List.set_cons_succ]))) | (refine Held.take (i := 6) (v := ?_) rfl (by kernel_rfl) (fun _ _ _ h => h) rfl ?_ ?_; rotate_left; (intro w hS; have hE := hS.1; have hx := HA.out.after hE; have x0 := hx.cell 0; have x1 := hx.cell 1; have x2 := hx.cell 2; have x3 := hx.cell 3; simp at x0 x1 x2 x3; go_simp; with_reducible rfl); (try (try simp only [Act.put, List.setIfInBounds_toArray, List.set_cons_zero, List.set_cons_succ]))))
          (first | (refine Held.skip (i := 7) rfl (by kernel_rfl) (fun _ _ _ h => h) rfl ?_; (try (try simp only [Act.put, List.setIfInBounds_toArray, List.set_cons_zero, List.set_cons_succ]))) | (refine Held.take (i := 7) (v := ?_) rfl (by kernel_rfl) (fun _ _ _ h => h) rfl ?_ ?_; rotate_left; (intro w hS; have hE := hS.1; have hx := HA.out.after hE; have x0 := hx.cell 0; have x1 := hx.cell 1; have x2 := hx.cell 2; have x3 := hx.cell 3; simp at x0 x1 x2 x3; go_simp; with_reducible rfl); (try (try simp only [Act.put, List.setIfInBounds_toArray, List.set_cons_zero, List.set_cons_succ]))))
          refine Held.one (i := 8) (by kernel_rfl) ?_
          · refine HeldOp.step (i := 8) rfl rfl ?_
            intro wcx hSc
            have hg8 : w6.heap.size ≤ wcx.heap.size := Below.size (hSc.1)
            have hn8 : g9 < wcx.heap.size := Four.lt (hSc.2)
            refine ⟨.pointer (some ⟨wcx.heap.size, 0, none⟩), wcx.alloc (.cells #[.int .u64 0, .int .u64 0, .int .u64 0, .int .u64 0] 24), .inl (by go_simp), (fun w' => Ext w6 w' ∧ Four w' wcx.heap.size ∧ Four w' g9), ⟨Below.alloc (hSc.1) (Below.size (hSc.1)) _, ⟨_, _, _, _, IsBlk.new _ _ _⟩, Four.alloc (hSc.2) _⟩, fun w h => ⟨h.1, h.2.2⟩, ?_⟩
            generalize wcx.heap.size = g8 at *
            clear hSc
            (try simp only [Act.put, List.setIfInBounds_toArray, List.set_cons_zero, List.set_cons_succ])
            refine Held.one (i := 10) (by kernel_rfl) ?_
            · refine HeldOp.step (i := 10) rfl rfl ?_
              intro wcx hSc
              obtain ⟨c0, c1, c2, c3, hblk⟩ := hSc.2.1
              refine ⟨undef, ((((wcx.setCell ⟨g8, 0, none⟩ (.int .u64 (wd c 0 : Nat))).setCell ⟨g8, 1, none⟩ (.int .u64 (wd c 1 : Nat))).setCell ⟨g8, 2, none⟩ (.int .u64 (wd c 2 : Nat))).setCell ⟨g8, 3, none⟩ (.int .u64 (wd c 3 : Nat))), .inr ⟨?_, rfl⟩, (fun w' => Ext w6 w' ∧ IsBlk w' g8 24 #[.int .u64 (wd c 0 : Nat), .int .u64 (wd c 1 : Nat), .int .u64 (wd c 2 : Nat), .int .u64 (wd c 3 : Nat)] ∧ Four w' g9), ⟨bel4 hSc.1 hg8, stored4 hblk, Four.far4 (hSc.2.2) (by omega)⟩, fun w h => ⟨h.1, ⟨_, _, _, _, h.2.1⟩, h.2.2⟩, ?_⟩
              · have b0 := hblk.cell 0
                have b1 := hblk.cell 1
                have b2 := hblk.cell 2
                have b3 := hblk.cell 3
                simp at b0 b1 b2 b3
                have frb := hblk.free
                have ltb := hblk.lt
                go_simp
              clear hSc hblk
              (try simp only [Act.put, List.setIfInBounds_toArray, List.set_cons_zero, List.set_cons_succ])
              refine Held.one (i := 11) (by kernel_rfl) ?_
              · refine HeldOp.step (i := 11) rfl rfl ?_
                intro wcx hSc
                obtain ⟨c0, c1, c2, c3, hblk⟩ := hSc.2.2
                refine ⟨undef, ((((wcx.setCell ⟨g9, 0, none⟩ (.int .u64 (wd s 0 : Nat))).setCell ⟨g9, 1, none⟩ (.int .u64 (wd s 1 : Nat))).setCell ⟨g9, 2, none⟩ (.int .u64 (wd s 2 : Nat))).setCell ⟨g9, 3, none⟩ (.int .u64 (wd s 3 : Nat))), .inr ⟨?_, rfl⟩, (fun w' => Ext w6 w' ∧ IsBlk w' g8 24 #[.int .u64 (wd c 0 : Nat), .int .u64 (wd c 1 : Nat), .int .u64 (wd c 2 : Nat), .int .u64 (wd c 3 : Nat)] ∧ IsBlk w' g9 24 #[.int .u64 (wd s 0 : Nat), .int .u64 (wd s 1 : Nat), .int .u64 (wd s 2 : Nat), .int .u64 (wd s 3 : Nat)]), ⟨bel4 hSc.1 hg9, far4 (hSc.2.1) (by omega), stored4 hblk⟩, fun w h => ⟨h.1, h.2.1, ⟨_, _, _, _, h.2.2⟩⟩, ?_⟩
                · have b0 := hblk.cell 0
                  have b1 := hblk.cell 1
                  have b2 := hblk.cell 2
                  have b3 := hblk.cell 3
                  simp at b0 b1 b2 b3
                  have frb := hblk.free
                  have ltb := hblk.lt
                  go_simp
                clear hSc hblk
                (try simp only [Act.put, List.setIfInBounds_toArray, List.set_cons_zero, List.set_cons_succ])
                (first | (refine Held.skip (i := 12) rfl (by kernel_rfl) (fun _ _ _ h => h) rfl ?_; (try (try simp only [Act.put, List.setIfInBounds_toArray, List.set_cons_zero, List.set_cons_succ]))) | (refine Held.take (i := 12) (v := ?_) rfl (by kernel_rfl) (fun _ _ _ h => h) rfl ?_ ?_; rotate_left; (intro w hS; have hE := hS.1; have hx := HA.out.after hE; have x0 := hx.cell 0; have x1 := hx.cell 1; have x2 := hx.cell 2; have x3 := hx.cell 3; simp at x0 x1 x2 x3; go_simp; with_reducible rfl); (try (try simp only [Act.put, List.setIfInBounds_toArray, List.set_cons_zero, List.set_cons_succ]))))
                refine Held.done (by kernel_rfl) ?_
                intro wz hz
                have hne : g8 ≠ g9 := by omega
                go_wp2_with fail
                go_meet
                exact ⟨g8, g9, rfl, rfl, rfl, hne, hz.1, hz.2.1, hz.2.2⟩
        · refine HeldOp.step (i := 8) rfl rfl ?_
          intro wcx hSc
          have hg8 : w6.heap.size ≤ wcx.heap.size := Below.size (hSc.1)
          have hn8 : g9 < wcx.heap.size := Four.lt (hSc.2)
          refine ⟨.pointer (some ⟨wcx.heap.size, 0, none⟩), wcx.alloc (.cells #[.int .u64 0, .int .u64 0, .int .u64 0, .int .u64 0] 24), .inl (by go_simp), (fun w' => Ext w6 w' ∧ Four w' wcx.heap.size ∧ Four w' g9), ⟨Below.alloc (hSc.1) (Below.size (hSc.1)) _, ⟨_, _, _, _, IsBlk.new _ _ _⟩, Four.alloc (hSc.2) _⟩, fun w h => ⟨h.1, h.2.2⟩, ?_⟩
          generalize wcx.heap.size = g8 at *
          clear hSc
          (try simp only [Act.put, List.setIfInBounds_toArray, List.set_cons_zero, List.set_cons_succ])
          refine Held.one (i := 3) (by kernel_rfl) ?_
          · refine HeldOp.call (i := 3) (f := ?_) (args := ?_) rfl rfl ?_ ?_
            rotate_left 2
            · (intro w hS; go_simp; (first | with_reducible rfl | (refine ⟨?_, ?_⟩ <;> with_reducible rfl)))
            intro wcx hSc
            (with_reducible refine (K7.out _).mono ?_)
            rintro e vc ⟨rfl, hb⟩
            refine ⟨_, rfl, (fun w' => Ext w6 w' ∧ Four w' g8 ∧ Four w' g9), ⟨bel_on hSc.1 hb, hSc.2.1.on hb, hSc.2.2.on hb⟩, fun w h => h, ?_⟩
            clear hSc hb
            (try simp only [Act.put, List.setIfInBounds_toArray, List.set_cons_zero, List.set_cons_succ])
            (first | (refine Held.skip (i := 4) rfl (by kernel_rfl) (fun _ _ _ h => h) rfl ?_; (try (try simp only [Act.put, List.setIfInBounds_toArray, List.set_cons_zero, List.set_cons_succ]))) | (refine Held.take (i := 4) (v := ?_) rfl (by kernel_rfl) (fun _ _ _ h => h) rfl ?_ ?_; rotate_left; (intro w hS; have hE := hS.1; have hx := HA.out.after hE; have x0 := hx.cell 0; have x1 := hx.cell 1; have x2 := hx.cell 2; have x3 := hx.cell 3; simp at x0 x1 x2 x3; go_simp; with_reducible rfl); (try (try simp only [Act.put, List.setIfInBounds_toArray, List.set_cons_zero, List.set_cons_succ]))))
            (first | (refine Held.skip (i := 5) rfl (by kernel_rfl) (fun _ _ _ h => h) rfl ?_; (try (try simp only [Act.put, List.setIfInBounds_toArray, List.set_cons_zero, List.set_cons_succ]))) | (refine Held.take (i := 5) (v := ?_) rfl (by kernel_rfl) (fun _ _ _ h => h) rfl ?_ ?_; rotate_left; (intro w hS; have hE := hS.1; have hx := HA.out.after hE; have x0 := hx.cell 0; have x1 := hx.cell 1; have x2 := hx.cell 2; have x3 := hx.cell 3; simp at x0 x1 x2 x3; go_simp; with_reducible rfl); (try (try simp only [Act.put, List.setIfInBounds_toArray, List.set_cons_zero, List.set_cons_succ]))))
            (first | (refine Held.skip (i := 6) rfl (by kernel_rfl) (fun _ _ _ h => h) rfl ?_; (try (try simp only [Act.put, List.setIfInBounds_toArray, List.set_cons_zero, List.set_cons_succ]))) | (refine Held.take (i := 6) (v := ?_) rfl (by kernel_rfl) (fun _ _ _ h => h) rfl ?_ ?_; rotate_left; (intro w hS; have hE := hS.1; have hx := HA.out.after hE; have x0 := hx.cell 0; have x1 := hx.cell 1; have x2 := hx.cell 2; have x3 := hx.cell 3; simp at x0 x1 x2 x3; go_simp; with_reducible rfl); (try (try simp only [Act.put, List.setIfInBounds_toArray, List.set_cons_zero, List.set_cons_succ]))))
            (first | (refine Held.skip (i := 7) rfl (by kernel_rfl) (fun _ _ _ h => h) rfl ?_; (try (try simp only [Act.put, List.setIfInBounds_toArray, List.set_cons_zero, List.set_cons_succ]))) | (refine Held.take (i := 7) (v := ?_) rfl (by kernel_rfl) (fun _ _ _ h => h) rfl ?_ ?_; rotate_left; (intro w hS; have hE := hS.1; have hx := HA.out.after hE; have x0 := hx.cell 0; have x1 := hx.cell 1; have x2 := hx.cell 2; have x3 := hx.cell 3; simp at x0 x1 x2 x3; go_simp; with_reducible rfl); (try (try simp only [Act.put, List.setIfInBounds_toArray, List.set_cons_zero, List.set_cons_succ]))))
            refine Held.one (i := 10) (by kernel_rfl) ?_
            · refine HeldOp.step (i := 10) rfl rfl ?_
              intro wcx hSc
              obtain ⟨c0, c1, c2, c3, hblk⟩ := hSc.2.1
              refine ⟨undef, ((((wcx.setCell ⟨g8, 0, none⟩ (.int .u64 (wd c 0 : Nat))).setCell ⟨g8, 1, none⟩ (.int .u64 (wd c 1 : Nat))).setCell ⟨g8, 2, none⟩ (.int .u64 (wd c 2 : Nat))).setCell ⟨g8, 3, none⟩ (.int .u64 (wd c 3 : Nat))), .inr ⟨?_, rfl⟩, (fun w' => Ext w6 w' ∧ IsBlk w' g8 24 #[.int .u64 (wd c 0 : Nat), .int .u64 (wd c 1 : Nat), .int .u64 (wd c 2 : Nat), .int .u64 (wd c 3 : Nat)] ∧ Four w' g9), ⟨bel4 hSc.1 hg8, stored4 hblk, Four.far4 (hSc.2.2) (by omega)⟩, fun w h => ⟨h.1, ⟨_, _, _, _, h.2.1⟩, h.2.2⟩, ?_⟩
              · have b0 := hblk.cell 0
                have b1 := hblk.cell 1
                have b2 := hblk.cell 2
                have b3 := hblk.cell 3
                simp at b0 b1 b2 b3
                have frb := hblk.free
                have ltb := hblk.lt
                go_simp
              clear hSc hblk
              (try simp only [Act.put, List.setIfInBounds_toArray, List.set_cons_zero, List.set_cons_succ])
              refine Held.one (i := 11) (by kernel_rfl) ?_
              · refine HeldOp.step (i := 11) rfl rfl ?_
                intro wcx hSc
                obtain ⟨c0, c1, c2, c3, hblk⟩ := hSc.2.2
                refine ⟨undef, ((((wcx.setCell ⟨g9, 0, none⟩ (.int .u64 (wd s 0 : Nat))).setCell ⟨g9, 1, none⟩ (.int .u64 (wd s 1 : Nat))).setCell ⟨g9, 2, none⟩ (.int .u64 (wd s 2 : Nat))).setCell ⟨g9, 3, none⟩ (.int .u64 (wd s 3 : Nat))), .inr ⟨?_, rfl⟩, (fun w' => Ext w6 w' ∧ IsBlk w' g8 24 #[.int .u64 (wd c 0 : Nat), .int .u64 (wd c 1 : Nat), .int .u64 (wd c 2 : Nat), .int .u64 (wd c 3 : Nat)] ∧ IsBlk w' g9 24 #[.int .u64 (wd s 0 : Nat), .int .u64 (wd s 1 : Nat), .int .u64 (wd s 2 : Nat), .int .u64 (wd s 3 : Nat)]), ⟨bel4 hSc.1 hg9, far4 (hSc.2.1) (by omega), stored4 hblk⟩, fun w h => ⟨h.1, h.2.1, ⟨_, _, _, _, h.2.2⟩⟩, ?_⟩
                · have b0 := hblk.cell 0
                  have b1 := hblk.cell 1
                  have b2 := hblk.cell 2
                  have b3 := hblk.cell 3
                  simp at b0 b1 b2 b3
                  have frb := hblk.free
                  have ltb := hblk.lt
                  go_simp
                clear hSc hblk
                (try simp only [Act.put, List.setIfInBounds_toArray, List.set_cons_zero, List.set_cons_succ])
                (first | (refine Held.skip (i := 12) rfl (by kernel_rfl) (fun _ _ _ h => h) rfl ?_; (try (try simp only [Act.put, List.setIfInBounds_toArray, List.set_cons_zero, List.set_cons_succ]))) | (refine Held.take (i := 12) (v := ?_) rfl (by kernel_rfl) (fun _ _ _ h => h) rfl ?_ ?_; rotate_left; (intro w hS; have hE := hS.1; have hx := HA.out.after hE; have x0 := hx.cell 0; have x1 := hx.cell 1; have x2 := hx.cell 2; have x3 := hx.cell 3; simp at x0 x1 x2 x3; go_simp; with_reducible rfl); (try (try simp only [Act.put, List.setIfInBounds_toArray, List.set_cons_zero, List.set_cons_succ]))))
                refine Held.done (by kernel_rfl) ?_
                intro wz hz
                have hne : g8 ≠ g9 := by omega
                go_wp2_with fail
                go_meet
                exact ⟨g8, g9, rfl, rfl, rfl, hne, hz.1, hz.2.1, hz.2.2⟩
      · refine HeldOp.step (i := 8) rfl rfl ?_
        intro wcx hSc
        have hg8 : w6.heap.size ≤ wcx.heap.size := Below.size (hSc.1)
        have hn8 : g9 < wcx.heap.size := Four.lt (hSc.2)
        refine ⟨.pointer (some ⟨wcx.heap.size, 0, none⟩), wcx.alloc (.cells #[.int .u64 0, .int .u64 0, .int .u64 0, .int .u64 0] 24), .inl (by go_simp), (fun w' => Ext w6 w' ∧ Four w' wcx.heap.size ∧ Four w' g9), ⟨Below.alloc (hSc.1) (Below.size (hSc.1)) _, ⟨_, _, _, _, IsBlk.new _ _ _⟩, Four.alloc (hSc.2) _⟩, fun w h => ⟨h.1, h.2.2⟩, ?_⟩
        generalize wcx.heap.size = g8 at *
        clear hSc
        (try simp only [Act.put, List.setIfInBounds_toArray, List.set_cons_zero, List.set_cons_succ])
        refine Held.one (i := 2) (by kernel_rfl) ?_
        · refine HeldOp.call (i := 2) (f := ?_) (args := ?_) rfl rfl ?_ ?_
          rotate_left 2
          · (intro w hS; go_simp; (first | with_reducible rfl | (refine ⟨?_, ?_⟩ <;> with_reducible rfl)))
          intro wcx hSc
          (with_reducible refine (K6.out _).mono ?_)
          rintro e vc ⟨rfl, hb⟩
          refine ⟨_, rfl, (fun w' => Ext w6 w' ∧ Four w' g8 ∧ Four w' g9), ⟨bel_on hSc.1 hb, hSc.2.1.on hb, hSc.2.2.on hb⟩, fun w h => h, ?_⟩
          clear hSc hb
          (try simp only [Act.put, List.setIfInBounds_toArray, List.set_cons_zero, List.set_cons_succ])
          refine Held.one (i := 3) (by kernel_rfl) ?_
          · refine HeldOp.call (i := 3) (f := ?_) (args := ?_) rfl rfl ?_ ?_
            rotate_left 2
            · (intro w hS; go_simp; (first | with_reducible rfl | (refine ⟨?_, ?_⟩ <;> with_reducible rfl)))
            intro wcx hSc
            (with_reducible refine (K7.out _).mono ?_)
            rintro e vc ⟨rfl, hb⟩
            refine ⟨_, rfl, (fun w' => Ext w6 w' ∧ Four w' g8 ∧ Four w' g9), ⟨bel_on hSc.1 hb, hSc.2.1.on hb, hSc.2.2.on hb⟩, fun w h => h, ?_⟩
            clear hSc hb
            (try simp only [Act.put, List.setIfInBounds_toArray, List.set_cons_zero, List.set_cons_succ])
            (first | (refine Held.skip (i := 4) rfl (by kernel_rfl) (fun _ _ _ h => h) rfl ?_; (try (try simp only [Act.put, List.setIfInBounds_toArray, List.set_cons_zero, List.set_cons_succ]))) | (refine Held.take (i := 4) (v := ?_) rfl (by kernel_rfl) (fun _ _ _ h => h) rfl ?_ ?_; rotate_left; (intro w hS; have hE := hS.1; have hx := HA.out.after hE; have x0 := hx.cell 0; have x1 := hx.cell 1; have x2 := hx.cell 2; have x3 := hx.cell 3; simp at x0 x1 x2 x3; go_simp; with_reducible rfl); (try (try simp only [Act.put, List.setIfInBounds_toArray, List.set_cons_zero, List.set_cons_succ]))))
            (first | (refine Held.skip (i := 5) rfl (by kernel_rfl) (fun _ _ _ h => h) rfl ?_; (try (try simp only [Act.put, List.setIfInBounds_toArray, List.set_cons_zero, List.set_cons_succ]))) | (refine Held.take (i := 5) (v := ?_) rfl (by kernel_rfl) (fun _ _ _ h => h) rfl ?_ ?_; rotate_left; (intro w hS; have hE := hS.1; have hx := HA.out.after hE; have x0 := hx.cell 0; have x1 := hx.cell 1; have x2 := hx.cell 2; have x3 := hx.cell 3; simp at x0 x1 x2 x3; go_simp; with_reducible rfl); (try (try simp only [Act.put, List.setIfInBounds_toArray, List.set_cons_zero, List.set_cons_succ]))))
            (first | (refine Held.skip (i := 6) rfl (by kernel_rfl) (fun _ _ _ h => h) rfl ?_; (try (try simp only [Act.put, List.setIfInBounds_toArray, List.set_cons_zero, List.set_cons_succ]))) | (refine Held.take (i := 6) (v := ?_) rfl (by kernel_rfl) (fun _ _ _ h => h) rfl ?_ ?_; rotate_left; (intro w hS; have hE := hS.1; have hx := HA.out.after hE; have x0 := hx.cell 0; have x1 := hx.cell 1; have x2 := hx.cell 2; have x3 := hx.cell 3; simp at x0 x1 x2 x3; go_simp; with_reducible rfl); (try (try simp only [Act.put, List.setIfInBounds_toArray, List.set_cons_zero, List.set_cons_succ]))))
            (first | (refine Held.skip (i := 7) rfl (by kernel_rfl) (fun _ _ _ h => h) rfl ?_; (try (try simp only [Act.put, List.setIfInBounds_toArray, List.set_cons_zero, List.set_cons_succ]))) | (refine Held.take (i := 7) (v := ?_) rfl (by kernel_rfl) (fun _ _ _ h => h) rfl ?_ ?_; rotate_left; (intro w hS; have hE := hS.1; have hx := HA.out.after hE; have x0 := hx.cell 0; have x1 := hx.cell 1; have x2 := hx.cell 2; have x3 := hx.cell 3; simp at x0 x1 x2 x3; go_simp; with_reducible rfl); (try (try simp only [Act.put, List.setIfInBounds_toArray, List.set_cons_zero, List.set_cons_succ]))))
            refine Held.one (i := 10) (by kernel_rfl) ?_
            · refine HeldOp.step (i := 10) rfl rfl ?_
              intro wcx hSc
              obtain ⟨c0, c1, c2, c3, hblk⟩ := hSc.2.1
              refine ⟨undef, ((((wcx.setCell ⟨g8, 0, none⟩ (.int .u64 (wd c 0 : Nat))).setCell ⟨g8, 1, none⟩ (.int .u64 (wd c 1 : Nat))).setCell ⟨g8, 2, none⟩ (.int .u64 (wd c 2 : Nat))).setCell ⟨g8, 3, none⟩ (.int .u64 (wd c 3 : Nat))), .inr ⟨?_, rfl⟩, (fun w' => Ext w6 w' ∧ IsBlk w' g8 24 #[.int .u64 (wd c 0 : Nat), .int .u64 (wd c 1 : Nat), .int .u64 (wd c 2 : Nat), .int .u64 (wd c 3 : Nat)] ∧ Four w' g9), ⟨bel4 hSc.1 hg8, stored4 hblk, Four.far4 (hSc.2.2) (by omega)⟩, fun w h => ⟨h.1, ⟨_, _, _, _, h.2.1⟩, h.2.2⟩, ?_⟩
              · have b0 := hblk.cell 0
                have b1 := hblk.cell 1
                have b2 := hblk.cell 2
                have b3 := hblk.cell 3
                simp at b0 b1 b2 b3
                have frb := hblk.free
                have ltb := hblk.lt
                go_simp
              clear hSc hblk
              (try simp only [Act.put, List.setIfInBounds_toArray, List.set_cons_zero, List.set_cons_succ])
              refine Held.one (i := 11) (by kernel_rfl) ?_
              · refine HeldOp.step (i := 11) rfl rfl ?_
                intro wcx hSc
                obtain ⟨c0, c1, c2, c3, hblk⟩ := hSc.2.2
                refine ⟨undef, ((((wcx.setCell ⟨g9, 0, none⟩ (.int .u64 (wd s 0 : Nat))).setCell ⟨g9, 1, none⟩ (.int .u64 (wd s 1 : Nat))).setCell ⟨g9, 2, none⟩ (.int .u64 (wd s 2 : Nat))).setCell ⟨g9, 3, none⟩ (.int .u64 (wd s 3 : Nat))), .inr ⟨?_, rfl⟩, (fun w' => Ext w6 w' ∧ IsBlk w' g8 24 #[.int .u64 (wd c 0 : Nat), .int .u64 (wd c 1 : Nat), .int .u64 (wd c 2 : Nat), .int .u64 (wd c 3 : Nat)] ∧ IsBlk w' g9 24 #[.int .u64 (wd s 0 : Nat), .int .u64 (wd s 1 : Nat), .int .u64 (wd s 2 : Nat), .int .u64 (wd s 3 : Nat)]), ⟨bel4 hSc.1 hg9, far4 (hSc.2.1) (by omega), stored4 hblk⟩, fun w h => ⟨h.1, h.2.1, ⟨_, _, _, _, h.2.2⟩⟩, ?_⟩
                · have b0 := hblk.cell 0
                  have b1 := hblk.cell 1
                  have b2 := hblk.cell 2
                  have b3 := hblk.cell 3
                  simp at b0 b1 b2 b3
                  have frb := hblk.free
                  have ltb := hblk.lt
                  go_simp
                clear hSc hblk
                (try simp only [Act.put, List.setIfInBounds_toArray, List.set_cons_zero, List.set_cons_succ])
                (first | (refine Held.skip (i := 12) rfl (by kernel_rfl) (fun _ _ _ h => h) rfl ?_; (try (try simp only [Act.put, List.setIfInBounds_toArray, List.set_cons_zero, List.set_cons_succ]))) | (refine Held.take (i := 12) (v := ?_) rfl (by kernel_rfl) (fun _ _ _ h => h) rfl ?_ ?_; rotate_left; (intro w hS; have hE := hS.1; have hx := HA.out.after hE; have x0 := hx.cell 0; have x1 := hx.cell 1; have x2 := hx.cell 2; have x3 := hx.cell 3; simp at x0 x1 x2 x3; go_simp; with_reducible rfl); (try (try simp only [Act.put, List.setIfInBounds_toArray, List.set_cons_zero, List.set_cons_succ]))))
                refine Held.done (by kernel_rfl) ?_
                intro wz hz
                have hne : g8 ≠ g9 := by omega
                go_wp2_with fail
                go_meet
                exact ⟨g8, g9, rfl, rfl, rfl, hne, hz.1, hz.2.1, hz.2.2⟩
  case rest =>
    obtain ⟨g8, g9, rfl, rfl, rfl, hne, hx6, h8, h9⟩ := hcut
    have hC6 := HC.out.after hx6
    have hB6 := bel_on HB.out hx6
    clear hx6
    have hx := HX.out
    clear HX
    rcases hx with rfl | rfl
    all_goals
      go_wp2_with fail
      refine wp_region_seq (S := fun w' => RB w' gc c ∧ RB w' g8 c ∧ RB w' g9 s ∧ Below w.heap.size w w') (by kernel_rfl) (by kernel_rfl) ⟨RB.of hC6.drew, RB.of h8.drew, RB.of h9.drew, hB6.drew⟩ ?_
      have HST := Lib.hid (show ∀ w1' w2', (RB w1' gc c ∧ RB w1' g8 c ∧ RB w1' g9 s ∧ Below w.heap.size w w1') → Below w1'.heap.size w1' w2' → (RB w2' gc c ∧ RB w2' g8 c ∧ RB w2' g9 s ∧ Below w.heap.size w w2') from fun _ _ h hb => ⟨h.1.later hb, h.2.1.later hb, h.2.2.1.later hb, bel_on h.2.2.2 hb⟩)
      clear hC6 h8 h9 hB6
      generalize hgw : w.heap.size = gw at *
      have HGW := Lib.hid hgw
      clear hgw
      repeat (first
        | (refine SeqS.skip ?_ ?_; rfl; (try simp only [Act.put, List.setIfInBounds_toArray, List.set_cons_zero, List.set_cons_succ]))
        | (refine SeqS.take (v := ?_) ?_ ?_ ?_; rotate_left; rfl; (intro w hS; simp only [RB] at hS; go_simp; with_reducible rfl); (try simp only [Act.put, List.setIfInBounds_toArray, List.set_cons_zero, List.set_cons_succ]))
        | (refine SeqS.call (v := ?_) (f := ?_) (args := ?_) ?_ ?_ ?_ ?_; rotate_left 3; rfl; (intro w hS; simp only [RB] at hS; go_simp; (first | with_reducible rfl | (refine ⟨?_, ?_⟩ <;> with_reducible rfl))); (intro w hS; first | ((with_reducible refine (K8.out _).mono ?_); rintro e w' ⟨rfl, hb⟩; refine ⟨?_, HST.out _ _ hS hb⟩; with_reducible rfl) | ((with_reducible refine (AW.out _).mono ?_); rintro e w' ⟨rfl, hb⟩; refine ⟨?_, HST.out _ _ hS hb⟩; with_reducible rfl)); (try simp only [Act.put, List.setIfInBounds_toArray, List.set_cons_zero, List.set_cons_succ])))
      refine SeqS.done ?_
      rintro wz ⟨_, _, _, hbz⟩
      go_wp2_with fail
      go_ret
      exact ⟨rfl, by rw [HGW.out]; exact hbz⟩
theorem quotient_walk (a b : Nat) (w : World) (ha : a < w256) (hb : b < w256) : Calls Try.prog 10 #[.agg #[.int .u64 (wd a 0 : Nat), .int .u64 (wd a 1 : Nat), .int .u64 (wd a 2 : Nat), .int .u64 (wd a 3 : Nat)], .agg #[.int .u64 (wd b 0 : Nat), .int .u64 (wd b 1 : Nat), .int .u64 (wd b 2 : Nat), .int .u64 (wd b 3 : Nat)]] w (BRet (.bool true) w) := by
  by_cases h : b = 0
  · subst h
    rw [lit_zero]
    exact quotient_zero a w
  have hq : a / b < w256 := Nat.lt_of_le_of_lt (Nat.div_le_self _ _) ha
  have hbp : 0 < b := by omega
  have hr : a % b < b := Nat.mod_lt _ hbp
  have hbq : b * (a / b) < w256 := Nat.lt_of_le_of_lt (Nat.mul_div_le a b) ha
  have hda := Nat.div_add_mod a b
  have hadd : addN (b * (a / b)) (a % b) = a := by unfold addN; rw [hda]; exact Nat.mod_eq_of_lt ha
  have hov : addOv (b * (a / b)) (a % b) = false := by unfold addOv; rw [hda]; simp; omega
  have hn := wd_lt b 0
  have K3 : ∀ w, Calls Try.prog 18 #[.agg #[.int .u64 (wd (b * (a / b)) 0 : Nat), .int .u64 (wd (b * (a / b)) 1 : Nat), .int .u64 (wd (b * (a / b)) 2 : Nat), .int .u64 (wd (b * (a / b)) 3 : Nat)], .agg #[.int .u64 (wd (a % b) 0 : Nat), .int .u64 (wd (a % b) 1 : Nat), .int .u64 (wd (a % b) 2 : Nat), .int .u64 (wd (a % b) 3 : Nat)]] w (BRet (.tuple #[.agg #[.int .u64 (wd a 0 : Nat), .int .u64 (wd a 1 : Nat), .int .u64 (wd a 2 : Nat), .int .u64 (wd a 3 : Nat)], .bool false]) w) := fun w => by
    have := add_any (b * (a / b)) (a % b) w hbq (by omega)
    rwa [hadd, hov] at this
  have E0 : ∀ w, (binOp .eql 24 (.agg #[.int .u64 (wd b 0 : Nat), .int .u64 (wd b 1 : Nat), .int .u64 (wd b 2 : Nat), .int .u64 (wd b 3 : Nat)]) (.agg #[.int .u64 0, .int .u64 0, .int .u64 0, .int .u64 0])).run Try.prog w = .ok (.bool false) w := fun w => by
    have := eqW_zero hb w
    rwa [decide_eq_false h] at this
  have hM : cmpN (a % b) b < 0 := by unfold cmpN; rw [if_pos hr]; decide
  by_cases hz : wd b 0 = 0
  · refine quotient_case a b (a / b) (a % b) (b * (a / b)) 0 0 0 2 (cmpN (a % b) b) w hM (.inr rfl) E0 (Lib.hid fun w => quot_any a b w ha hb h) (Lib.hid fun w => times_any b (a / b) w hb hq hbq) (Lib.hid K3) (Lib.hid fun w => cmp_any _ _ w (by omega) hb)
      (Lib.hid fun w => ?_) (Lib.hid fun w => of_any _ w) (Lib.hid fun w => ?_) (Lib.hid fun w => ?_) (Lib.hid awake_any)
    · rw [lit_zero, hz]; exact div_zero a w
    · rw [lit_zero, hz]; exact quot_zero a w
    · rw [lit_zero]; exact of_any 0 w
  · have hnp : 0 < wd b 0 := by omega
    have hmn : a % wd b 0 < wd b 0 := Nat.mod_lt _ hnp
    refine quotient_case a b (a / b) (a % b) (b * (a / b)) (a / wd b 0) (a % wd b 0) (a % wd b 0) 0 (cmpN (a % b) b) w hM (.inl rfl) E0 (Lib.hid fun w => quot_any a b w ha hb h) (Lib.hid fun w => times_any b (a / b) w hb hq hbq) (Lib.hid K3) (Lib.hid fun w => cmp_any _ _ w (by omega) hb)
      (Lib.hid fun w => div_any a _ w ha hn hnp) (Lib.hid fun w => of_any _ w) (Lib.hid fun w => ?_) (Lib.hid fun w => ?_) (Lib.hid awake_any)
    · have := quot_any a (wd b 0) w ha (small_lt hn) (by omega)
      rwa [small_words hn] at this
    · rw [small_words (by omega)]; exact of_any _ w
theorem law_WideQuotient {H : Type} {enc : TypeId × Value → H} (W : World) (base : Nat) (v0 v1 : Value) (d0 d1 : DataW H) (p0 p1 : List MemPlace)
    (h0 : DataW.Trod enc Try.prog W 0 (fun _ => true) true 24 v0 d0 p0) (h1 : DataW.Trod enc Try.prog W 0 (fun _ => true) true 24 v1 d1 p1)
    (o0 : Value.okWide Try.prog W .any base 24 v0) (o1 : Value.okWide Try.prog W .any base 24 v1) :
    Calls Try.prog 10 #[v0, v1] W fun e w' => e = .returned (.bool true) ∧ Below W.heap.size W w' := by
  obtain ⟨a, ha, rfl⟩ := in_wide h0 o0
  obtain ⟨b, hb, rfl⟩ := in_wide h1 o1
  exact quotient_walk a b W ha hb
end Go.Proofs.Ytncfgllcleidnaa
