/- Numbers of four words: the chapter's examples. -/
import Derived.Test.YtncfgllcleidnaaWideBb
namespace Go.Proofs.Ytncfgllcleidnaa
open Go.RowKit

theorem bel_al {w b : World} (h : Below w.heap.size w b) (o : Obj) : Below w.heap.size w (b.alloc o) := h.alloc h.size o

set_option maxRecDepth 100000 in
set_option maxHeartbeats 8000000 in
theorem known_case (w : World)
    (KG : Hid (∀ w, Calls Try.prog 31 #[] w (BRet (.agg #[.int .u64 18446744073709551615, .int .u64 18446744073709551615, .int .u64 18446744073709551615, .int .u64 18446744073709551615]) w)))
    (K1 : Hid (∀ w, Calls Try.prog 16 #[.agg #[.int .u64 18446744073709551615, .int .u64 18446744073709551615, .int .u64 18446744073709551615, .int .u64 18446744073709551615], .int .u64 2] w (BRet (.tuple #[.agg #[.int .u64 18446744073709551614, .int .u64 18446744073709551615, .int .u64 18446744073709551615, .int .u64 18446744073709551615], .int .u64 1]) w)))
    (K2 : Hid (∀ w, Calls Try.prog 35 #[.agg #[.int .u64 18446744073709551615, .int .u64 18446744073709551615, .int .u64 18446744073709551615, .int .u64 18446744073709551615], .int .u64 2] w (BRet (.tuple #[.agg #[.int .u64 18446744073709551615, .int .u64 18446744073709551615, .int .u64 18446744073709551615, .int .u64 9223372036854775807], .int .u64 1, .int .i64 0]) w)))
    (K3 : Hid (∀ w, Calls Try.prog 35 #[.agg #[.int .u64 1, .int .u64 0, .int .u64 0, .int .u64 0], .int .u64 0] w (BRet (.tuple #[.agg #[.int .u64 0, .int .u64 0, .int .u64 0, .int .u64 0], .int .u64 0, .int .i64 2]) w)))
    (K4 : Hid (∀ w, Calls Try.prog 32 #[.agg #[.int .u64 18446744073709551615, .int .u64 18446744073709551615, .int .u64 18446744073709551615, .int .u64 18446744073709551615], .agg #[.int .u64 0, .int .u64 0, .int .u64 1, .int .u64 0]] w (BRet (.tuple #[.agg #[.int .u64 18446744073709551615, .int .u64 18446744073709551615, .int .u64 0, .int .u64 0], .agg #[.int .u64 18446744073709551615, .int .u64 18446744073709551615, .int .u64 0, .int .u64 0], .int .i64 0]) w)))
    (K5 : Hid (∀ w, Calls Try.prog 32 #[.agg #[.int .u64 7, .int .u64 0, .int .u64 0, .int .u64 0], .agg #[.int .u64 9, .int .u64 0, .int .u64 0, .int .u64 0]] w (BRet (.tuple #[.agg #[.int .u64 0, .int .u64 0, .int .u64 0, .int .u64 0], .agg #[.int .u64 7, .int .u64 0, .int .u64 0, .int .u64 0], .int .i64 0]) w)))
    (K6 : Hid (∀ w, Calls Try.prog 32 #[.agg #[.int .u64 1, .int .u64 0, .int .u64 0, .int .u64 0], .agg #[.int .u64 0, .int .u64 0, .int .u64 0, .int .u64 0]] w (BRet (.tuple #[.agg #[.int .u64 0, .int .u64 0, .int .u64 0, .int .u64 0], .agg #[.int .u64 0, .int .u64 0, .int .u64 0, .int .u64 0], .int .i64 2]) w)))
    (AW : Hid (∀ w, Calls Try.prog 15 #[] w (BRet (.bool true) w)))
    (K7 : Hid (∀ w, Calls Try.prog 11 #[.agg #[.int .u64 1, .int .u64 0, .int .u64 0, .int .u64 0], .int .i64 255] w (BRet (.agg #[.int .u64 0, .int .u64 0, .int .u64 0, .int .u64 9223372036854775808]) w)))
    (K8 : Hid (∀ w, Calls Try.prog 11 #[.agg #[.int .u64 1, .int .u64 0, .int .u64 0, .int .u64 0], .int .i64 256] w (BRet (.agg #[.int .u64 0, .int .u64 0, .int .u64 0, .int .u64 0]) w)))
    (K9 : Hid (∀ w, Calls Try.prog 11 #[.agg #[.int .u64 18446744073709551615, .int .u64 18446744073709551615, .int .u64 18446744073709551615, .int .u64 18446744073709551615], .int .i64 (-255)] w (BRet (.agg #[.int .u64 1, .int .u64 0, .int .u64 0, .int .u64 0]) w)))
    (K10 : Hid (∀ w, Calls Try.prog 13 #[.agg #[.int .u64 0, .int .u64 0, .int .u64 0, .int .u64 0]] w (BRet (.int .i64 0) w))) :
    Calls Try.prog 9 #[] w (BRet (.bool true) w) := by
  have E := fun a0 a1 a2 a3 => eqW_same a0 a1 a2 a3
  go_enter Try.func9, Try.ntmps9
  go_wp2_with fail
  refine (KG.out _).mono ?_
  rintro e w1 ⟨rfl, hb1⟩
  have HB1 := Lib.hid ((show Below w.heap.size w _ from by repeat' (first | exact Below.refl _ _ | refine bel_drewN ?_ _ | refine Below.drew ?_ | refine Below.alloc ?_ ?_ _ | refine Below.setCell ?_ ?_ _ | exact Nat.le_refl _ | (simp; done) | (simp; omega) | assumption)).trans (hb1.mono (by simp <;> omega)))
  clear hb1
  go_wp2_with fail
  refine (K1.out _).mono ?_
  rintro e w2 ⟨rfl, hb2⟩
  have Hm2 := Lib.hid ((show IsBlk _ (w1.heap.size) 24 #[.int .u64 18446744073709551615, .int .u64 18446744073709551615, .int .u64 18446744073709551615, .int .u64 18446744073709551615] from (IsBlk.newAt _ _ rfl)).after hb2)
  have HB2 := Lib.hid (bel_on (bel_al HB1.out _) hb2)
  clear hb2
  clear HB1
  have hm := Hm2.out
  have vm0 := hm.cell 0
  have vm1 := hm.cell 1
  have vm2 := hm.cell 2
  have vm3 := hm.cell 3
  simp at vm0 vm1 vm2 vm3
  have frvm := hm.free
  have lvm := hm.lt
  clear hm
  go_wp2_with fail
  refine (K2.out _).mono ?_
  rintro e w3 ⟨rfl, hb3⟩
  have Hm3 := Lib.hid ((Hm2.out.alloc _).after hb3)
  have Hx3 := Lib.hid ((show IsBlk _ (w2.heap.size) 24 #[.int .u64 18446744073709551614, .int .u64 18446744073709551615, .int .u64 18446744073709551615, .int .u64 18446744073709551615] from (IsBlk.newAt _ _ rfl)).after hb3)
  have HB3 := Lib.hid (bel_on (bel_al HB2.out _) hb3)
  clear vm0 vm1 vm2 vm3 frvm lvm
  clear hb3
  clear Hm2 HB2
  go_wp2_with fail
  refine (K3.out _).mono ?_
  rintro e w4 ⟨rfl, hb4⟩
  have Hm4 := Lib.hid ((Hm3.out.alloc _).after hb4)
  have Hx4 := Lib.hid ((Hx3.out.alloc _).after hb4)
  have Hq4 := Lib.hid ((show IsBlk _ (w3.heap.size) 24 #[.int .u64 18446744073709551615, .int .u64 18446744073709551615, .int .u64 18446744073709551615, .int .u64 9223372036854775807] from (IsBlk.newAt _ _ rfl)).after hb4)
  have HB4 := Lib.hid (bel_on (bel_al HB3.out _) hb4)
  clear hb4
  clear Hm3 Hx3 HB3
  have hm := Hm4.out
  have vm0 := hm.cell 0
  have vm1 := hm.cell 1
  have vm2 := hm.cell 2
  have vm3 := hm.cell 3
  simp at vm0 vm1 vm2 vm3
  have frvm := hm.free
  have lvm := hm.lt
  clear hm
  go_wp2_with fail
  refine (K4.out _).mono ?_
  rintro e w5 ⟨rfl, hb5⟩
  have Hm5 := Lib.hid ((Hm4.out.alloc _).after hb5)
  have Hx5 := Lib.hid ((Hx4.out.alloc _).after hb5)
  have Hq5 := Lib.hid ((Hq4.out.alloc _).after hb5)
  have HB5 := Lib.hid (bel_on (bel_al HB4.out _) hb5)
  clear vm0 vm1 vm2 vm3 frvm lvm
  clear hb5
  clear Hm4 Hx4 Hq4 HB4
  go_wp2_with fail
  refine (K5.out _).mono ?_
  rintro e w6 ⟨rfl, hb6⟩
  have Hm6 := Lib.hid (((Hm5.out.alloc _).alloc _).after hb6)
  have Hx6 := Lib.hid (((Hx5.out.alloc _).alloc _).after hb6)
  have Hq6 := Lib.hid (((Hq5.out.alloc _).alloc _).after hb6)
  have Ha6 := Lib.hid ((show IsBlk _ (w5.heap.size) 24 #[.int .u64 18446744073709551615, .int .u64 18446744073709551615, .int .u64 0, .int .u64 0] from ((IsBlk.newAt _ _ rfl).alloc _)).after hb6)
  have Hb6 := Lib.hid ((show IsBlk _ (w5.heap.size + 1) 24 #[.int .u64 18446744073709551615, .int .u64 18446744073709551615, .int .u64 0, .int .u64 0] from (IsBlk.newAt _ _ (by simp))).after hb6)
  have HB6 := Lib.hid (bel_on (bel_al (bel_al HB5.out _) _) hb6)
  clear hb6
  clear Hm5 Hx5 Hq5 HB5
  go_wp2_with fail
  refine (K6.out _).mono ?_
  rintro e w7 ⟨rfl, hb7⟩
  have Hm7 := Lib.hid (((Hm6.out.alloc _).alloc _).after hb7)
  have Hx7 := Lib.hid (((Hx6.out.alloc _).alloc _).after hb7)
  have Hq7 := Lib.hid (((Hq6.out.alloc _).alloc _).after hb7)
  have Ha7 := Lib.hid (((Ha6.out.alloc _).alloc _).after hb7)
  have Hb7 := Lib.hid (((Hb6.out.alloc _).alloc _).after hb7)
  have Hc7 := Lib.hid ((show IsBlk _ (w6.heap.size) 24 #[.int .u64 0, .int .u64 0, .int .u64 0, .int .u64 0] from ((IsBlk.newAt _ _ rfl).alloc _)).after hb7)
  have Hd7 := Lib.hid ((show IsBlk _ (w6.heap.size + 1) 24 #[.int .u64 7, .int .u64 0, .int .u64 0, .int .u64 0] from (IsBlk.newAt _ _ (by simp))).after hb7)
  have HB7 := Lib.hid (bel_on (bel_al (bel_al HB6.out _) _) hb7)
  clear hb7
  clear Hm6 Hx6 Hq6 Ha6 Hb6 HB6
  go_wp2_with fail
  refine (AW.out _).mono ?_
  rintro e w8 ⟨rfl, hb8⟩
  have Hm8 := Lib.hid ((((Hm7.out.alloc _).alloc _).alloc _).after hb8)
  have Hx8 := Lib.hid ((((Hx7.out.alloc _).alloc _).alloc _).after hb8)
  have Hq8 := Lib.hid ((((Hq7.out.alloc _).alloc _).alloc _).after hb8)
  have Ha8 := Lib.hid ((((Ha7.out.alloc _).alloc _).alloc _).after hb8)
  have Hb8 := Lib.hid ((((Hb7.out.alloc _).alloc _).alloc _).after hb8)
  have Hc8 := Lib.hid ((((Hc7.out.alloc _).alloc _).alloc _).after hb8)
  have Hd8 := Lib.hid ((((Hd7.out.alloc _).alloc _).alloc _).after hb8)
  have Hh8 := Lib.hid ((show IsBlk _ (w7.heap.size + 1 + 1) 24 #[.int .u64 18446744073709551615, .int .u64 18446744073709551615, .int .u64 0, .int .u64 0] from (IsBlk.newAt _ _ (by simp))).after hb8)
  have HB8 := Lib.hid (bel_on (bel_al (bel_al (bel_al HB7.out _) _) _) hb8)
  clear hb8
  clear Hm7 Hx7 Hq7 Ha7 Hb7 Hc7 Hd7 HB7
  have hx := Hx8.out
  have vx0 := hx.cell 0
  have vx1 := hx.cell 1
  have vx2 := hx.cell 2
  have vx3 := hx.cell 3
  simp at vx0 vx1 vx2 vx3
  have frvx := hx.free
  have lvx := hx.lt
  clear hx
  have hq := Hq8.out
  have vq0 := hq.cell 0
  have vq1 := hq.cell 1
  have vq2 := hq.cell 2
  have vq3 := hq.cell 3
  simp at vq0 vq1 vq2 vq3
  have frvq := hq.free
  have lvq := hq.lt
  clear hq
  have ha := Ha8.out
  have va0 := ha.cell 0
  have va1 := ha.cell 1
  have va2 := ha.cell 2
  have va3 := ha.cell 3
  simp at va0 va1 va2 va3
  have frva := ha.free
  have lva := ha.lt
  clear ha
  have hb := Hb8.out
  have vb0 := hb.cell 0
  have vb1 := hb.cell 1
  have vb2 := hb.cell 2
  have vb3 := hb.cell 3
  simp at vb0 vb1 vb2 vb3
  have frvb := hb.free
  have lvb := hb.lt
  clear hb
  have hc := Hc8.out
  have vc0 := hc.cell 0
  have vc1 := hc.cell 1
  have vc2 := hc.cell 2
  have vc3 := hc.cell 3
  simp at vc0 vc1 vc2 vc3
  have frvc := hc.free
  have lvc := hc.lt
  clear hc
  have hd := Hd8.out
  have vd0 := hd.cell 0
  have vd1 := hd.cell 1
  have vd2 := hd.cell 2
  have vd3 := hd.cell 3
  simp at vd0 vd1 vd2 vd3
  have frvd := hd.free
  have lvd := hd.lt
  clear hd
  have hh := Hh8.out
  have vh0 := hh.cell 0
  have vh1 := hh.cell 1
  have vh2 := hh.cell 2
  have vh3 := hh.cell 3
  simp at vh0 vh1 vh2 vh3
  have frvh := hh.free
  have lvh := hh.lt
  clear hh
  have hm := Hm8.out
  have vm0 := hm.cell 0
  have vm1 := hm.cell 1
  have vm2 := hm.cell 2
  have vm3 := hm.cell 3
  simp at vm0 vm1 vm2 vm3
  have frvm := hm.free
  have lvm := hm.lt
  clear hm
  go_wp2_with fail
  refine (K7.out _).mono ?_
  rintro e w9 ⟨rfl, hb9⟩
  have Hm9 := Lib.hid (Hm8.out.after hb9)
  have Hx9 := Lib.hid (Hx8.out.after hb9)
  have Hq9 := Lib.hid (Hq8.out.after hb9)
  have Ha9 := Lib.hid (Ha8.out.after hb9)
  have Hb9 := Lib.hid (Hb8.out.after hb9)
  have Hc9 := Lib.hid (Hc8.out.after hb9)
  have Hd9 := Lib.hid (Hd8.out.after hb9)
  have Hh9 := Lib.hid (Hh8.out.after hb9)
  have HB9 := Lib.hid (bel_on HB8.out hb9)
  clear vx0 vx1 vx2 vx3 frvx lvx
  clear vq0 vq1 vq2 vq3 frvq lvq
  clear va0 va1 va2 va3 frva lva
  clear vb0 vb1 vb2 vb3 frvb lvb
  clear vc0 vc1 vc2 vc3 frvc lvc
  clear vd0 vd1 vd2 vd3 frvd lvd
  clear vh0 vh1 vh2 vh3 frvh lvh
  clear vm0 vm1 vm2 vm3 frvm lvm
  clear hb9
  clear Hm8 Hx8 Hq8 Ha8 Hb8 Hc8 Hd8 Hh8 HB8
  go_wp2_with fail
  refine (K8.out _).mono ?_
  rintro e w10 ⟨rfl, hb10⟩
  have Hm10 := Lib.hid (Hm9.out.after hb10)
  have Hx10 := Lib.hid (Hx9.out.after hb10)
  have Hq10 := Lib.hid (Hq9.out.after hb10)
  have Ha10 := Lib.hid (Ha9.out.after hb10)
  have Hb10 := Lib.hid (Hb9.out.after hb10)
  have Hc10 := Lib.hid (Hc9.out.after hb10)
  have Hd10 := Lib.hid (Hd9.out.after hb10)
  have Hh10 := Lib.hid (Hh9.out.after hb10)
  have HB10 := Lib.hid (bel_on HB9.out hb10)
  clear hb10
  clear Hm9 Hx9 Hq9 Ha9 Hb9 Hc9 Hd9 Hh9 HB9
  have hm := Hm10.out
  have vm0 := hm.cell 0
  have vm1 := hm.cell 1
  have vm2 := hm.cell 2
  have vm3 := hm.cell 3
  simp at vm0 vm1 vm2 vm3
  have frvm := hm.free
  have lvm := hm.lt
  clear hm
  go_wp2_with fail
  refine (K9.out _).mono ?_
  rintro e w11 ⟨rfl, hb11⟩
  have Hm11 := Lib.hid (Hm10.out.after hb11)
  have Hx11 := Lib.hid (Hx10.out.after hb11)
  have Hq11 := Lib.hid (Hq10.out.after hb11)
  have Ha11 := Lib.hid (Ha10.out.after hb11)
  have Hb11 := Lib.hid (Hb10.out.after hb11)
  have Hc11 := Lib.hid (Hc10.out.after hb11)
  have Hd11 := Lib.hid (Hd10.out.after hb11)
  have Hh11 := Lib.hid (Hh10.out.after hb11)
  have HB11 := Lib.hid (bel_on HB10.out hb11)
  clear vm0 vm1 vm2 vm3 frvm lvm
  clear hb11
  clear Hm10 Hx10 Hq10 Ha10 Hb10 Hc10 Hd10 Hh10 HB10
  go_wp2_with fail
  refine (K10.out _).mono ?_
  rintro e w12 ⟨rfl, hb12⟩
  have Hm12 := Lib.hid (Hm11.out.after hb12)
  have Hx12 := Lib.hid (Hx11.out.after hb12)
  have Hq12 := Lib.hid (Hq11.out.after hb12)
  have Ha12 := Lib.hid (Ha11.out.after hb12)
  have Hb12 := Lib.hid (Hb11.out.after hb12)
  have Hc12 := Lib.hid (Hc11.out.after hb12)
  have Hd12 := Lib.hid (Hd11.out.after hb12)
  have Hh12 := Lib.hid (Hh11.out.after hb12)
  have HB12 := Lib.hid (bel_on HB11.out hb12)
  clear hb12
  clear Hm11 Hx11 Hq11 Ha11 Hb11 Hc11 Hd11 Hh11 HB11
  go_wp2_with fail
  go_ret
  exact ⟨rfl, HB12.out⟩

theorem lit4 (n a b c d : Nat) (h0 : wd n 0 = a) (h1 : wd n 1 = b) (h2 : wd n 2 = c) (h3 : wd n 3 = d) : (.agg #[.int .u64 (wd n 0 : Nat), .int .u64 (wd n 1 : Nat), .int .u64 (wd n 2 : Nat), .int .u64 (wd n 3 : Nat)] : Value) = .agg #[.int .u64 a, .int .u64 b, .int .u64 c, .int .u64 d] := by rw [h0, h1, h2, h3]
def maxW : Nat := 115792089237316195423570985008687907853269984665640564039457584007913129639935
theorem maxW_lt : maxW < w256 := by rw [w256_eq]; decide
theorem not_zero : notN 0 = maxW := by decide
theorem maxW_lit : (.agg #[.int .u64 (wd maxW 0 : Nat), .int .u64 (wd maxW 1 : Nat), .int .u64 (wd maxW 2 : Nat), .int .u64 (wd maxW 3 : Nat)] : Value) = .agg #[.int .u64 18446744073709551615, .int .u64 18446744073709551615, .int .u64 18446744073709551615, .int .u64 18446744073709551615] := lit4 maxW 18446744073709551615 18446744073709551615 18446744073709551615 18446744073709551615 (by decide) (by decide) (by decide) (by decide)
theorem known_walk (w : World) : Calls Try.prog 9 #[] w (BRet (.bool true) w) := by
  have l1 : (1 : Nat) < w256 := by rw [w256_eq]; decide
  have l0 : (0 : Nat) < w256 := by rw [w256_eq]; decide
  have l7 : (7 : Nat) < w256 := by rw [w256_eq]; decide
  have l9 : (9 : Nat) < w256 := by rw [w256_eq]; decide
  have lh : (340282366920938463463374607431768211456 : Nat) < w256 := by rw [w256_eq]; decide
  refine known_case w (Lib.hid fun w => ?_) (Lib.hid fun w => ?_) (Lib.hid fun w => ?_) (Lib.hid fun w => ?_) (Lib.hid fun w => ?_) (Lib.hid fun w => ?_) (Lib.hid fun w => ?_) (Lib.hid awake_any) (Lib.hid fun w => ?_) (Lib.hid fun w => ?_) (Lib.hid fun w => ?_) (Lib.hid fun w => ?_)
  · rw [← maxW_lit, ← not_zero]; exact greatest_any w
  · have := mul_any maxW 2 w maxW_lt (by decide)
    rwa [maxW_lit, lit4 (mulN maxW 2) 18446744073709551614 18446744073709551615 18446744073709551615 18446744073709551615 (by decide) (by decide) (by decide) (by decide), show mulOv maxW 2 = 1 from by decide] at this
  · have := div_any maxW 2 w maxW_lt (by decide) (by decide)
    rwa [maxW_lit, lit4 (maxW / 2) 18446744073709551615 18446744073709551615 18446744073709551615 9223372036854775807 (by decide) (by decide) (by decide) (by decide), show maxW % 2 = 1 from by decide] at this
  · have := div_zero 1 w
    rwa [lit_one] at this
  · have := quot_any maxW 340282366920938463463374607431768211456 w maxW_lt lh (by decide)
    rwa [maxW_lit, lit4 340282366920938463463374607431768211456 0 0 1 0 (by decide) (by decide) (by decide) (by decide), lit4 (maxW / 340282366920938463463374607431768211456) 18446744073709551615 18446744073709551615 0 0 (by decide) (by decide) (by decide) (by decide),
      lit4 (maxW % 340282366920938463463374607431768211456) 18446744073709551615 18446744073709551615 0 0 (by decide) (by decide) (by decide) (by decide)] at this
  · have := quot_any 7 9 w l7 l9 (by decide)
    rwa [show 7 / 9 = 0 from rfl, show 7 % 9 = 7 from rfl, lit_zero, small_words (n := 7) (by decide), small_words (n := 9) (by decide)] at this
  · have := quot_zero 1 w
    rwa [lit_one] at this
  · have := sh_any l1 255 w
    rwa [lit_one, lit4 (shiftN 1 255) 0 0 0 9223372036854775808 (by decide) (by decide) (by decide) (by decide)] at this
  · have := sh_any l1 256 w
    rwa [lit_one, show shiftN 1 256 = 0 from by decide, lit_zero] at this
  · have := sh_any maxW_lt (-255) w
    rwa [maxW_lit, show shiftN maxW (-255) = 1 from by decide, lit_one] at this
  · have := bits_any 0 w l0
    rwa [lit_zero, bitsN_zero] at this
theorem law_WideKnown {H : Type} {enc : TypeId × Value → H} (W : World) (base : Nat) : Calls Try.prog 9 #[] W fun e w' => e = .returned (.bool true) ∧ Below W.heap.size W w' := known_walk W
end Go.Proofs.Ytncfgllcleidnaa
