/- The law of what is kept, walked. -/
import Derived.Test.YthmaijmjhfngpaaTgP
namespace Go.Proofs.Ythmaijmjhfngpaa
open Go.RowKit

set_option maxRecDepth 100000 in
set_option maxHeartbeats 16000000 in
theorem kept_bad (c l X Y : Nat) (e f : Int) (t1 t2 : Bool) (S W : Int) (w : World) (hbad : t1 = true ∨ t2 = true ∨ W < 1 ∨ 1152921504606846976 < W) (h1 : (e != 0) = t1) (h2 : (f != 0) = t2)
    (K1 : Hid (∀ w, Calls Try.prog 10 #[.int .u32 c] w (BRet (.tuple #[.agg #[.int .u64 (wd X 0 : Nat), .int .u64 (wd X 1 : Nat), .int .u64 (wd X 2 : Nat), .int .u64 (wd X 3 : Nat)], .int .i64 e]) w)))
    (K2 : Hid (∀ w, Calls Try.prog 10 #[.int .u32 l] w (BRet (.tuple #[.agg #[.int .u64 (wd Y 0 : Nat), .int .u64 (wd Y 1 : Nat), .int .u64 (wd Y 2 : Nat), .int .u64 (wd Y 3 : Nat)], .int .i64 f]) w)))
    (K3 : Hid (∀ w, Calls Try.prog 26 #[.int .u32 c, .int .u32 l, .int .i64 S, .int .i64 W] w (BRet (.int .u32 c) w)))
    (AW : Hid (∀ w, Calls Try.prog 14 #[] w (BRet (.bool true) w))) :
    Calls Try.prog 9 #[.agg #[.int .u32 (c : Nat), .int .u32 (l : Nat)], .int .i64 S, .int .i64 W] w (BRet (.bool true) w) := by
  cases t1
  · cases t2
    · by_cases h3 : W < 1
      · clear hbad
        go_enter Try.func9, Try.ntmps9
        go_wp2_with fail
        refine (K1.out _).mono ?_
        rintro e w1 ⟨rfl, hb1⟩
        have Hi1 := Lib.hid ((show IsBlk _ (w.heap.size) 51 #[.int .u32 (c : Nat), .int .u32 (l : Nat)] from (IsBlk.newAt _ _ rfl)).after hb1)
        have HB1 := Lib.hid ((show Below w.heap.size w _ from by repeat' (first | exact Below.refl _ _ | refine bel_drewN ?_ _ | refine Below.drew ?_ | refine Below.alloc ?_ ?_ _ | refine Below.setCell ?_ ?_ _ | exact Nat.le_refl _ | (simp; done) | (simp; omega) | assumption)).trans (hb1.mono (by simp <;> omega)))
        clear hb1
        have hi := Hi1.out
        have c0 := hi.cell 0
        have c1 := hi.cell 1
        simp at c0 c1
        have li := hi.lt
        clear hi
        go_wp2_with fail
        refine (K2.out _).mono ?_
        rintro e w2 ⟨rfl, hb2⟩
        have Hi2 := Lib.hid ((Hi1.out.alloc _).after hb2)
        have Hx2 := Lib.hid ((show IsBlk _ (w1.heap.size) 25 #[.int .u64 (wd X 0 : Nat), .int .u64 (wd X 1 : Nat), .int .u64 (wd X 2 : Nat), .int .u64 (wd X 3 : Nat)] from (IsBlk.newAt _ _ rfl)).after hb2)
        have HB2 := Lib.hid (bel_on (bel_al HB1.out _) hb2)
        clear hb2
        clear Hi1 HB1
        clear c0 c1 li
        have hi := Hi2.out
        have c0 := hi.cell 0
        have c1 := hi.cell 1
        simp at c0 c1
        have li := hi.lt
        clear hi
        go_wp2_with fail
        refine (K3.out _).mono ?_
        rintro e w3 ⟨rfl, hb3⟩
        have Hi3 := Lib.hid ((Hi2.out.alloc _).after hb3)
        have Hx3 := Lib.hid ((Hx2.out.alloc _).after hb3)
        have Hy3 := Lib.hid ((show IsBlk _ (w2.heap.size) 25 #[.int .u64 (wd Y 0 : Nat), .int .u64 (wd Y 1 : Nat), .int .u64 (wd Y 2 : Nat), .int .u64 (wd Y 3 : Nat)] from (IsBlk.newAt _ _ rfl)).after hb3)
        have HB3 := Lib.hid (bel_on (bel_al HB2.out _) hb3)
        clear hb3
        clear Hi2 Hx2 HB2
        clear c0 c1 li
        have hi := Hi3.out
        have c0 := hi.cell 0
        have c1 := hi.cell 1
        simp at c0 c1
        have li := hi.lt
        clear hi
        go_wp2_with fail
        refine (AW.out _).mono ?_
        rintro e w4 ⟨rfl, hb4⟩
        have Hi4 := Lib.hid (Hi3.out.after hb4)
        have Hx4 := Lib.hid (Hx3.out.after hb4)
        have Hy4 := Lib.hid (Hy3.out.after hb4)
        have HB4 := Lib.hid (bel_on HB3.out hb4)
        clear hb4
        clear Hi3 Hx3 Hy3 HB3
        clear c0 c1 li
        go_wp2_with fail
        go_ret
        exact ⟨rfl, HB4.out⟩
      · have h4 : 1152921504606846976 < W := by rcases hbad with h | h | h | h <;> first | cases h | omega
        clear hbad
        go_enter Try.func9, Try.ntmps9
        go_wp2_with fail
        refine (K1.out _).mono ?_
        rintro e w1 ⟨rfl, hb1⟩
        have Hi1 := Lib.hid ((show IsBlk _ (w.heap.size) 51 #[.int .u32 (c : Nat), .int .u32 (l : Nat)] from (IsBlk.newAt _ _ rfl)).after hb1)
        have HB1 := Lib.hid ((show Below w.heap.size w _ from by repeat' (first | exact Below.refl _ _ | refine bel_drewN ?_ _ | refine Below.drew ?_ | refine Below.alloc ?_ ?_ _ | refine Below.setCell ?_ ?_ _ | exact Nat.le_refl _ | (simp; done) | (simp; omega) | assumption)).trans (hb1.mono (by simp <;> omega)))
        clear hb1
        have hi := Hi1.out
        have c0 := hi.cell 0
        have c1 := hi.cell 1
        simp at c0 c1
        have li := hi.lt
        clear hi
        go_wp2_with fail
        refine (K2.out _).mono ?_
        rintro e w2 ⟨rfl, hb2⟩
        have Hi2 := Lib.hid ((Hi1.out.alloc _).after hb2)
        have Hx2 := Lib.hid ((show IsBlk _ (w1.heap.size) 25 #[.int .u64 (wd X 0 : Nat), .int .u64 (wd X 1 : Nat), .int .u64 (wd X 2 : Nat), .int .u64 (wd X 3 : Nat)] from (IsBlk.newAt _ _ rfl)).after hb2)
        have HB2 := Lib.hid (bel_on (bel_al HB1.out _) hb2)
        clear hb2
        clear Hi1 HB1
        clear c0 c1 li
        have hi := Hi2.out
        have c0 := hi.cell 0
        have c1 := hi.cell 1
        simp at c0 c1
        have li := hi.lt
        clear hi
        go_wp2_with fail
        refine (K3.out _).mono ?_
        rintro e w3 ⟨rfl, hb3⟩
        have Hi3 := Lib.hid ((Hi2.out.alloc _).after hb3)
        have Hx3 := Lib.hid ((Hx2.out.alloc _).after hb3)
        have Hy3 := Lib.hid ((show IsBlk _ (w2.heap.size) 25 #[.int .u64 (wd Y 0 : Nat), .int .u64 (wd Y 1 : Nat), .int .u64 (wd Y 2 : Nat), .int .u64 (wd Y 3 : Nat)] from (IsBlk.newAt _ _ rfl)).after hb3)
        have HB3 := Lib.hid (bel_on (bel_al HB2.out _) hb3)
        clear hb3
        clear Hi2 Hx2 HB2
        clear c0 c1 li
        have hi := Hi3.out
        have c0 := hi.cell 0
        have c1 := hi.cell 1
        simp at c0 c1
        have li := hi.lt
        clear hi
        go_wp2_with fail
        refine (AW.out _).mono ?_
        rintro e w4 ⟨rfl, hb4⟩
        have Hi4 := Lib.hid (Hi3.out.after hb4)
        have Hx4 := Lib.hid (Hx3.out.after hb4)
        have Hy4 := Lib.hid (Hy3.out.after hb4)
        have HB4 := Lib.hid (bel_on HB3.out hb4)
        clear hb4
        clear Hi3 Hx3 Hy3 HB3
        clear c0 c1 li
        go_wp2_with fail
        go_ret
        exact ⟨rfl, HB4.out⟩
    · clear hbad
      go_enter Try.func9, Try.ntmps9
      go_wp2_with fail
      refine (K1.out _).mono ?_
      rintro e w1 ⟨rfl, hb1⟩
      have Hi1 := Lib.hid ((show IsBlk _ (w.heap.size) 51 #[.int .u32 (c : Nat), .int .u32 (l : Nat)] from (IsBlk.newAt _ _ rfl)).after hb1)
      have HB1 := Lib.hid ((show Below w.heap.size w _ from by repeat' (first | exact Below.refl _ _ | refine bel_drewN ?_ _ | refine Below.drew ?_ | refine Below.alloc ?_ ?_ _ | refine Below.setCell ?_ ?_ _ | exact Nat.le_refl _ | (simp; done) | (simp; omega) | assumption)).trans (hb1.mono (by simp <;> omega)))
      clear hb1
      have hi := Hi1.out
      have c0 := hi.cell 0
      have c1 := hi.cell 1
      simp at c0 c1
      have li := hi.lt
      clear hi
      go_wp2_with fail
      refine (K2.out _).mono ?_
      rintro e w2 ⟨rfl, hb2⟩
      have Hi2 := Lib.hid ((Hi1.out.alloc _).after hb2)
      have Hx2 := Lib.hid ((show IsBlk _ (w1.heap.size) 25 #[.int .u64 (wd X 0 : Nat), .int .u64 (wd X 1 : Nat), .int .u64 (wd X 2 : Nat), .int .u64 (wd X 3 : Nat)] from (IsBlk.newAt _ _ rfl)).after hb2)
      have HB2 := Lib.hid (bel_on (bel_al HB1.out _) hb2)
      clear hb2
      clear Hi1 HB1
      clear c0 c1 li
      have hi := Hi2.out
      have c0 := hi.cell 0
      have c1 := hi.cell 1
      simp at c0 c1
      have li := hi.lt
      clear hi
      go_wp2_with fail
      refine (K3.out _).mono ?_
      rintro e w3 ⟨rfl, hb3⟩
      have Hi3 := Lib.hid ((Hi2.out.alloc _).after hb3)
      have Hx3 := Lib.hid ((Hx2.out.alloc _).after hb3)
      have Hy3 := Lib.hid ((show IsBlk _ (w2.heap.size) 25 #[.int .u64 (wd Y 0 : Nat), .int .u64 (wd Y 1 : Nat), .int .u64 (wd Y 2 : Nat), .int .u64 (wd Y 3 : Nat)] from (IsBlk.newAt _ _ rfl)).after hb3)
      have HB3 := Lib.hid (bel_on (bel_al HB2.out _) hb3)
      clear hb3
      clear Hi2 Hx2 HB2
      clear c0 c1 li
      have hi := Hi3.out
      have c0 := hi.cell 0
      have c1 := hi.cell 1
      simp at c0 c1
      have li := hi.lt
      clear hi
      go_wp2_with fail
      refine (AW.out _).mono ?_
      rintro e w4 ⟨rfl, hb4⟩
      have Hi4 := Lib.hid (Hi3.out.after hb4)
      have Hx4 := Lib.hid (Hx3.out.after hb4)
      have Hy4 := Lib.hid (Hy3.out.after hb4)
      have HB4 := Lib.hid (bel_on HB3.out hb4)
      clear hb4
      clear Hi3 Hx3 Hy3 HB3
      clear c0 c1 li
      go_wp2_with fail
      go_ret
      exact ⟨rfl, HB4.out⟩
  · clear hbad
    go_enter Try.func9, Try.ntmps9
    go_wp2_with fail
    refine (K1.out _).mono ?_
    rintro e w1 ⟨rfl, hb1⟩
    have Hi1 := Lib.hid ((show IsBlk _ (w.heap.size) 51 #[.int .u32 (c : Nat), .int .u32 (l : Nat)] from (IsBlk.newAt _ _ rfl)).after hb1)
    have HB1 := Lib.hid ((show Below w.heap.size w _ from by repeat' (first | exact Below.refl _ _ | refine bel_drewN ?_ _ | refine Below.drew ?_ | refine Below.alloc ?_ ?_ _ | refine Below.setCell ?_ ?_ _ | exact Nat.le_refl _ | (simp; done) | (simp; omega) | assumption)).trans (hb1.mono (by simp <;> omega)))
    clear hb1
    have hi := Hi1.out
    have c0 := hi.cell 0
    have c1 := hi.cell 1
    simp at c0 c1
    have li := hi.lt
    clear hi
    go_wp2_with fail
    refine (K2.out _).mono ?_
    rintro e w2 ⟨rfl, hb2⟩
    have Hi2 := Lib.hid ((Hi1.out.alloc _).after hb2)
    have Hx2 := Lib.hid ((show IsBlk _ (w1.heap.size) 25 #[.int .u64 (wd X 0 : Nat), .int .u64 (wd X 1 : Nat), .int .u64 (wd X 2 : Nat), .int .u64 (wd X 3 : Nat)] from (IsBlk.newAt _ _ rfl)).after hb2)
    have HB2 := Lib.hid (bel_on (bel_al HB1.out _) hb2)
    clear hb2
    clear Hi1 HB1
    clear c0 c1 li
    have hi := Hi2.out
    have c0 := hi.cell 0
    have c1 := hi.cell 1
    simp at c0 c1
    have li := hi.lt
    clear hi
    go_wp2_with fail
    refine (K3.out _).mono ?_
    rintro e w3 ⟨rfl, hb3⟩
    have Hi3 := Lib.hid ((Hi2.out.alloc _).after hb3)
    have Hx3 := Lib.hid ((Hx2.out.alloc _).after hb3)
    have Hy3 := Lib.hid ((show IsBlk _ (w2.heap.size) 25 #[.int .u64 (wd Y 0 : Nat), .int .u64 (wd Y 1 : Nat), .int .u64 (wd Y 2 : Nat), .int .u64 (wd Y 3 : Nat)] from (IsBlk.newAt _ _ rfl)).after hb3)
    have HB3 := Lib.hid (bel_on (bel_al HB2.out _) hb3)
    clear hb3
    clear Hi2 Hx2 HB2
    clear c0 c1 li
    have hi := Hi3.out
    have c0 := hi.cell 0
    have c1 := hi.cell 1
    simp at c0 c1
    have li := hi.lt
    clear hi
    go_wp2_with fail
    refine (AW.out _).mono ?_
    rintro e w4 ⟨rfl, hb4⟩
    have Hi4 := Lib.hid (Hi3.out.after hb4)
    have Hx4 := Lib.hid (Hx3.out.after hb4)
    have Hy4 := Lib.hid (Hy3.out.after hb4)
    have HB4 := Lib.hid (bel_on HB3.out hb4)
    clear hb4
    clear Hi3 Hx3 Hy3 HB3
    clear c0 c1 li
    go_wp2_with fail
    go_ret
    exact ⟨rfl, HB4.out⟩

set_option maxRecDepth 100000 in
set_option maxHeartbeats 16000000 in
theorem kept_zero (c l X Y Z B : Nat) (S : Int) (n : Nat) (g : Int) (w : World) (hn1 : (1 : Int) ≤ (n : Int)) (hn2 : (n : Int) ≤ 1152921504606846976) (hg : (g != 0) = true) (hB : (n : Int) < 4 ∨ (B : Int) ≤ 4)
    (K1 : Hid (∀ w, Calls Try.prog 10 #[.int .u32 c] w (BRet (.tuple #[.agg #[.int .u64 (wd X 0 : Nat), .int .u64 (wd X 1 : Nat), .int .u64 (wd X 2 : Nat), .int .u64 (wd X 3 : Nat)], .int .i64 0]) w)))
    (K2 : Hid (∀ w, Calls Try.prog 10 #[.int .u32 l] w (BRet (.tuple #[.agg #[.int .u64 (wd Y 0 : Nat), .int .u64 (wd Y 1 : Nat), .int .u64 (wd Y 2 : Nat), .int .u64 (wd Y 3 : Nat)], .int .i64 0]) w)))
    (K3 : Hid (∀ w, Calls Try.prog 26 #[.int .u32 c, .int .u32 l, .int .i64 S, .int .i64 n] w (BRet (.int .u32 0) w)))
    (K4 : Hid (∀ w, Calls Try.prog 10 #[.int .u32 0] w (BRet (.tuple #[.agg #[.int .u64 (wd Z 0 : Nat), .int .u64 (wd Z 1 : Nat), .int .u64 (wd Z 2 : Nat), .int .u64 (wd Z 3 : Nat)], .int .i64 g]) w)))
    (KB : Hid (∀ w, Calls Try.prog 20 #[.agg #[.int .u64 (wd X 0 : Nat), .int .u64 (wd X 1 : Nat), .int .u64 (wd X 2 : Nat), .int .u64 (wd X 3 : Nat)]] w (BRet (.int .i64 B) w)))
    (AW : Hid (∀ w, Calls Try.prog 14 #[] w (BRet (.bool true) w))) :
    Calls Try.prog 9 #[.agg #[.int .u32 (c : Nat), .int .u32 (l : Nat)], .int .i64 S, .int .i64 n] w (BRet (.bool true) w) := by
  by_cases h4 : (n : Int) < 4
  · clear hB
    go_enter Try.func9, Try.ntmps9
    go_wp2_with fail
    refine (K1.out _).mono ?_
    rintro e w1 ⟨rfl, hb1⟩
    have Hi1 := Lib.hid ((show IsBlk _ (w.heap.size) 51 #[.int .u32 (c : Nat), .int .u32 (l : Nat)] from (IsBlk.newAt _ _ rfl)).after hb1)
    have HB1 := Lib.hid ((show Below w.heap.size w _ from by repeat' (first | exact Below.refl _ _ | refine bel_drewN ?_ _ | refine Below.drew ?_ | refine Below.alloc ?_ ?_ _ | refine Below.setCell ?_ ?_ _ | exact Nat.le_refl _ | (simp; done) | (simp; omega) | assumption)).trans (hb1.mono (by simp <;> omega)))
    clear hb1
    have hi := Hi1.out
    have c0 := hi.cell 0
    have c1 := hi.cell 1
    simp at c0 c1
    have li := hi.lt
    clear hi
    go_wp2_with fail
    refine (K2.out _).mono ?_
    rintro e w2 ⟨rfl, hb2⟩
    have Hi2 := Lib.hid ((Hi1.out.alloc _).after hb2)
    have Hx2 := Lib.hid ((show IsBlk _ (w1.heap.size) 25 #[.int .u64 (wd X 0 : Nat), .int .u64 (wd X 1 : Nat), .int .u64 (wd X 2 : Nat), .int .u64 (wd X 3 : Nat)] from (IsBlk.newAt _ _ rfl)).after hb2)
    have HB2 := Lib.hid (bel_on (bel_al HB1.out _) hb2)
    clear hb2
    clear Hi1 HB1
    clear c0 c1 li
    have hi := Hi2.out
    have c0 := hi.cell 0
    have c1 := hi.cell 1
    simp at c0 c1
    have li := hi.lt
    clear hi
    go_wp2_with fail
    refine (K3.out _).mono ?_
    rintro e w3 ⟨rfl, hb3⟩
    have Hi3 := Lib.hid ((Hi2.out.alloc _).after hb3)
    have Hx3 := Lib.hid ((Hx2.out.alloc _).after hb3)
    have Hy3 := Lib.hid ((show IsBlk _ (w2.heap.size) 25 #[.int .u64 (wd Y 0 : Nat), .int .u64 (wd Y 1 : Nat), .int .u64 (wd Y 2 : Nat), .int .u64 (wd Y 3 : Nat)] from (IsBlk.newAt _ _ rfl)).after hb3)
    have HB3 := Lib.hid (bel_on (bel_al HB2.out _) hb3)
    clear hb3
    clear Hi2 Hx2 HB2
    clear c0 c1 li
    go_wp2_with fail
    refine (K4.out _).mono ?_
    rintro e w4 ⟨rfl, hb4⟩
    have Hi4 := Lib.hid (Hi3.out.after hb4)
    have Hx4 := Lib.hid (Hx3.out.after hb4)
    have Hy4 := Lib.hid (Hy3.out.after hb4)
    have HB4 := Lib.hid (bel_on HB3.out hb4)
    clear hb4
    clear Hi3 Hx3 Hy3 HB3
    have hx := Hx4.out
    have vx0 := hx.cell 0
    have vx1 := hx.cell 1
    have vx2 := hx.cell 2
    have vx3 := hx.cell 3
    simp at vx0 vx1 vx2 vx3
    have frvx := hx.free
    have lvx := hx.lt
    clear hx
    go_wp2_with fail
    refine (AW.out _).mono ?_
    rintro e w5 ⟨rfl, hb5⟩
    have Hi5 := Lib.hid ((Hi4.out.alloc _).after hb5)
    have Hx5 := Lib.hid ((Hx4.out.alloc _).after hb5)
    have Hy5 := Lib.hid ((Hy4.out.alloc _).after hb5)
    have Hb5 := Lib.hid ((show IsBlk _ (w4.heap.size) 25 #[.int .u64 (wd Z 0 : Nat), .int .u64 (wd Z 1 : Nat), .int .u64 (wd Z 2 : Nat), .int .u64 (wd Z 3 : Nat)] from (IsBlk.newAt _ _ rfl)).after hb5)
    have HB5 := Lib.hid (bel_on (bel_al HB4.out _) hb5)
    clear vx0 vx1 vx2 vx3 frvx lvx
    clear hb5
    clear Hi4 Hx4 Hy4 HB4
    go_wp2_with fail
    go_ret
    exact ⟨rfl, HB5.out⟩
  · have hB4 : (B : Int) ≤ 4 := by omega
    clear hB
    go_enter Try.func9, Try.ntmps9
    go_wp2_with fail
    refine (K1.out _).mono ?_
    rintro e w1 ⟨rfl, hb1⟩
    have Hi1 := Lib.hid ((show IsBlk _ (w.heap.size) 51 #[.int .u32 (c : Nat), .int .u32 (l : Nat)] from (IsBlk.newAt _ _ rfl)).after hb1)
    have HB1 := Lib.hid ((show Below w.heap.size w _ from by repeat' (first | exact Below.refl _ _ | refine bel_drewN ?_ _ | refine Below.drew ?_ | refine Below.alloc ?_ ?_ _ | refine Below.setCell ?_ ?_ _ | exact Nat.le_refl _ | (simp; done) | (simp; omega) | assumption)).trans (hb1.mono (by simp <;> omega)))
    clear hb1
    have hi := Hi1.out
    have c0 := hi.cell 0
    have c1 := hi.cell 1
    simp at c0 c1
    have li := hi.lt
    clear hi
    go_wp2_with fail
    refine (K2.out _).mono ?_
    rintro e w2 ⟨rfl, hb2⟩
    have Hi2 := Lib.hid ((Hi1.out.alloc _).after hb2)
    have Hx2 := Lib.hid ((show IsBlk _ (w1.heap.size) 25 #[.int .u64 (wd X 0 : Nat), .int .u64 (wd X 1 : Nat), .int .u64 (wd X 2 : Nat), .int .u64 (wd X 3 : Nat)] from (IsBlk.newAt _ _ rfl)).after hb2)
    have HB2 := Lib.hid (bel_on (bel_al HB1.out _) hb2)
    clear hb2
    clear Hi1 HB1
    clear c0 c1 li
    have hi := Hi2.out
    have c0 := hi.cell 0
    have c1 := hi.cell 1
    simp at c0 c1
    have li := hi.lt
    clear hi
    go_wp2_with fail
    refine (K3.out _).mono ?_
    rintro e w3 ⟨rfl, hb3⟩
    have Hi3 := Lib.hid ((Hi2.out.alloc _).after hb3)
    have Hx3 := Lib.hid ((Hx2.out.alloc _).after hb3)
    have Hy3 := Lib.hid ((show IsBlk _ (w2.heap.size) 25 #[.int .u64 (wd Y 0 : Nat), .int .u64 (wd Y 1 : Nat), .int .u64 (wd Y 2 : Nat), .int .u64 (wd Y 3 : Nat)] from (IsBlk.newAt _ _ rfl)).after hb3)
    have HB3 := Lib.hid (bel_on (bel_al HB2.out _) hb3)
    clear hb3
    clear Hi2 Hx2 HB2
    clear c0 c1 li
    go_wp2_with fail
    refine (K4.out _).mono ?_
    rintro e w4 ⟨rfl, hb4⟩
    have Hi4 := Lib.hid (Hi3.out.after hb4)
    have Hx4 := Lib.hid (Hx3.out.after hb4)
    have Hy4 := Lib.hid (Hy3.out.after hb4)
    have HB4 := Lib.hid (bel_on HB3.out hb4)
    clear hb4
    clear Hi3 Hx3 Hy3 HB3
    have hx := Hx4.out
    have vx0 := hx.cell 0
    have vx1 := hx.cell 1
    have vx2 := hx.cell 2
    have vx3 := hx.cell 3
    simp at vx0 vx1 vx2 vx3
    have frvx := hx.free
    have lvx := hx.lt
    clear hx
    go_wp2_with fail
    refine (KB.out _).mono ?_
    rintro e w5 ⟨rfl, hb5⟩
    have Hi5 := Lib.hid ((Hi4.out.alloc _).after hb5)
    have Hx5 := Lib.hid ((Hx4.out.alloc _).after hb5)
    have Hy5 := Lib.hid ((Hy4.out.alloc _).after hb5)
    have Hb5 := Lib.hid ((show IsBlk _ (w4.heap.size) 25 #[.int .u64 (wd Z 0 : Nat), .int .u64 (wd Z 1 : Nat), .int .u64 (wd Z 2 : Nat), .int .u64 (wd Z 3 : Nat)] from (IsBlk.newAt _ _ rfl)).after hb5)
    have HB5 := Lib.hid (bel_on (bel_al HB4.out _) hb5)
    clear vx0 vx1 vx2 vx3 frvx lvx
    clear hb5
    clear Hi4 Hx4 Hy4 HB4
    go_wp2_with fail
    refine (AW.out _).mono ?_
    rintro e w6 ⟨rfl, hb6⟩
    have Hi6 := Lib.hid (Hi5.out.after hb6)
    have Hx6 := Lib.hid (Hx5.out.after hb6)
    have Hy6 := Lib.hid (Hy5.out.after hb6)
    have Hb6 := Lib.hid (Hb5.out.after hb6)
    have HB6 := Lib.hid (bel_on HB5.out hb6)
    clear hb6
    clear Hi5 Hx5 Hy5 Hb5 HB5
    go_wp2_with fail
    go_ret
    exact ⟨rfl, HB6.out⟩
end Go.Proofs.Ythmaijmjhfngpaa
