/- The law of what is kept, walked: nothing is refused. -/
import Derived.Test.YthmaijmjhfngpaaTgQ
namespace Go.Proofs.Ythmaijmjhfngpaa
open Go.RowKit

set_option maxRecDepth 100000 in
set_option maxHeartbeats 32000000 in
theorem kept_case (c l X Y nx b F q r Q k low : Nat) (S : Int) (n : Nat) (over h v v2 M1 M2 M3 M4 M5 : Int) (w : World) (hn1 : (1 : Int) ≤ (n : Int)) (hn2 : (n : Int) ≤ 1152921504606846976)
    (hM1 : ¬ 0 < M1) (hov : (over == 0) = false ∨ ((over == 0) = true ∧ ¬ 0 < M2)) (hQ : Q = if 0 < M3 then Y else q)
    (hlow : ((n : Int) % 4 == 0) = false ∨ ((n : Int) % 4 = 0 ∧ (h == 0) = false) ∨ ((n : Int) % 4 = 0 ∧ (h == 0) = true ∧ ¬ M4 < 0))
    (hfin : (v == (c : Int)) = false ∨ (v = (c : Int) ∧ ¬ M5 ≤ 0) ∨ (v = (c : Int) ∧ M5 ≤ 0 ∧ v2 = (c : Int)))
    (K1 : Hid (∀ w, Calls Try.prog 10 #[.int .u32 c] w (BRet (.tuple #[.agg #[.int .u64 (wd X 0 : Nat), .int .u64 (wd X 1 : Nat), .int .u64 (wd X 2 : Nat), .int .u64 (wd X 3 : Nat)], .int .i64 0]) w)))
    (K2 : Hid (∀ w, Calls Try.prog 10 #[.int .u32 l] w (BRet (.tuple #[.agg #[.int .u64 (wd Y 0 : Nat), .int .u64 (wd Y 1 : Nat), .int .u64 (wd Y 2 : Nat), .int .u64 (wd Y 3 : Nat)], .int .i64 0]) w)))
    (K3 : Hid (∀ w, Calls Try.prog 26 #[.int .u32 c, .int .u32 l, .int .i64 S, .int .i64 n] w (BRet (.int .u32 nx) w)))
    (K4 : Hid (∀ w, Calls Try.prog 10 #[.int .u32 nx] w (BRet (.tuple #[.agg #[.int .u64 (wd b 0 : Nat), .int .u64 (wd b 1 : Nat), .int .u64 (wd b 2 : Nat), .int .u64 (wd b 3 : Nat)], .int .i64 0]) w)))
    (K5 : Hid (∀ w, Calls Try.prog 19 #[.agg #[.int .u64 (wd b 0 : Nat), .int .u64 (wd b 1 : Nat), .int .u64 (wd b 2 : Nat), .int .u64 (wd b 3 : Nat)], .agg #[.int .u64 (wd Y 0 : Nat), .int .u64 (wd Y 1 : Nat), .int .u64 (wd Y 2 : Nat), .int .u64 (wd Y 3 : Nat)]] w (BRet (.int .i64 M1) w)))
    (K6 : Hid (∀ w, Calls Try.prog 28 #[.agg #[.int .u64 (wd X 0 : Nat), .int .u64 (wd X 1 : Nat), .int .u64 (wd X 2 : Nat), .int .u64 (wd X 3 : Nat)], .int .u64 4] w (BRet (.tuple #[.agg #[.int .u64 (wd F 0 : Nat), .int .u64 (wd F 1 : Nat), .int .u64 (wd F 2 : Nat), .int .u64 (wd F 3 : Nat)], .int .u64 over]) w)))
    (K7 : Hid (∀ w, Calls Try.prog 19 #[.agg #[.int .u64 (wd b 0 : Nat), .int .u64 (wd b 1 : Nat), .int .u64 (wd b 2 : Nat), .int .u64 (wd b 3 : Nat)], .agg #[.int .u64 (wd F 0 : Nat), .int .u64 (wd F 1 : Nat), .int .u64 (wd F 2 : Nat), .int .u64 (wd F 3 : Nat)]] w (BRet (.int .i64 M2) w)))
    (K8 : Hid (∀ w, Calls Try.prog 29 #[.agg #[.int .u64 (wd X 0 : Nat), .int .u64 (wd X 1 : Nat), .int .u64 (wd X 2 : Nat), .int .u64 (wd X 3 : Nat)], .int .u64 4] w (BRet (.tuple #[.agg #[.int .u64 (wd q 0 : Nat), .int .u64 (wd q 1 : Nat), .int .u64 (wd q 2 : Nat), .int .u64 (wd q 3 : Nat)], .int .u64 r, .int .i64 0]) w)))
    (K9 : Hid (∀ w, Calls Try.prog 19 #[.agg #[.int .u64 (wd q 0 : Nat), .int .u64 (wd q 1 : Nat), .int .u64 (wd q 2 : Nat), .int .u64 (wd q 3 : Nat)], .agg #[.int .u64 (wd Y 0 : Nat), .int .u64 (wd Y 1 : Nat), .int .u64 (wd Y 2 : Nat), .int .u64 (wd Y 3 : Nat)]] w (BRet (.int .i64 M3) w)))
    (K10 : Hid (∀ w, Calls Try.prog 12 #[.agg #[.int .u64 (wd Q 0 : Nat), .int .u64 (wd Q 1 : Nat), .int .u64 (wd Q 2 : Nat), .int .u64 (wd Q 3 : Nat)]] w (BRet (.int .u32 k) w)))
    (K11 : Hid (∀ w, Calls Try.prog 10 #[.int .u32 k] w (BRet (.tuple #[.agg #[.int .u64 (wd low 0 : Nat), .int .u64 (wd low 1 : Nat), .int .u64 (wd low 2 : Nat), .int .u64 (wd low 3 : Nat)], .int .i64 h]) w)))
    (K12 : Hid (∀ w, Calls Try.prog 19 #[.agg #[.int .u64 (wd b 0 : Nat), .int .u64 (wd b 1 : Nat), .int .u64 (wd b 2 : Nat), .int .u64 (wd b 3 : Nat)], .agg #[.int .u64 (wd low 0 : Nat), .int .u64 (wd low 1 : Nat), .int .u64 (wd low 2 : Nat), .int .u64 (wd low 3 : Nat)]] w (BRet (.int .i64 M4) w)))
    (K13 : Hid (∀ w, Calls Try.prog 12 #[.agg #[.int .u64 (wd X 0 : Nat), .int .u64 (wd X 1 : Nat), .int .u64 (wd X 2 : Nat), .int .u64 (wd X 3 : Nat)]] w (BRet (.int .u32 v) w)))
    (K14 : Hid (∀ w, Calls Try.prog 19 #[.agg #[.int .u64 (wd X 0 : Nat), .int .u64 (wd X 1 : Nat), .int .u64 (wd X 2 : Nat), .int .u64 (wd X 3 : Nat)], .agg #[.int .u64 (wd Y 0 : Nat), .int .u64 (wd Y 1 : Nat), .int .u64 (wd Y 2 : Nat), .int .u64 (wd Y 3 : Nat)]] w (BRet (.int .i64 M5) w)))
    (K15 : Hid (∀ w, Calls Try.prog 26 #[.int .u32 c, .int .u32 l, .int .i64 n, .int .i64 n] w (BRet (.int .u32 v2) w)))
    (AW : Hid (∀ w, Calls Try.prog 14 #[] w (BRet (.bool true) w))) :
    Calls Try.prog 9 #[.agg #[.int .u32 (c : Nat), .int .u32 (l : Nat)], .int .i64 S, .int .i64 n] w (BRet (.bool true) w) := by
  go_enter Try.func9, Try.ntmps9
  go_wp2_with fail
  refine (K1.out _).mono ?_
  rintro e w1 ⟨rfl, hb1⟩
  have Hi1 := Lib.hid ((show IsBlk _ (w.heap.size) 51 #[.int .u32 (c : Nat), .int .u32 (l : Nat)] from (IsBlk.newAt _ _ rfl)).after hb1)
  have HB1 := Lib.hid ((show Below w.heap.size w _ from by repeat' (first | exact Below.refl _ _ | refine bel_drewN ?_ _ | refine Below.drew ?_ | refine Below.alloc ?_ ?_ _ | refine Below.setCell ?_ ?_ _ | exact Nat.le_refl _ | (simp; done) | (simp; omega) | assumption)).trans (hb1.mono (by simp <;> omega)))
  clear hb1
  have hi := Hi1.out
  have c0 := hi.cell 0
  have c1 := hi.cell 1
  simp at c0 c1
  have li := hi.lt
  clear hi
  go_wp2_with fail
  refine (K2.out _).mono ?_
  rintro e w2 ⟨rfl, hb2⟩
  have Hi2 := Lib.hid ((Hi1.out.alloc _).after hb2)
  have Hx2 := Lib.hid ((show IsBlk _ (w1.heap.size) 25 #[.int .u64 (wd X 0 : Nat), .int .u64 (wd X 1 : Nat), .int .u64 (wd X 2 : Nat), .int .u64 (wd X 3 : Nat)] from (IsBlk.newAt _ _ rfl)).after hb2)
  have HB2 := Lib.hid (bel_on (bel_al HB1.out _) hb2)
  clear hb2
  clear Hi1 HB1
  clear c0 c1 li
  have hi := Hi2.out
  have c0 := hi.cell 0
  have c1 := hi.cell 1
  simp at c0 c1
  have li := hi.lt
  clear hi
  go_wp2_with fail
  refine (K3.out _).mono ?_
  rintro e w3 ⟨rfl, hb3⟩
  have Hi3 := Lib.hid ((Hi2.out.alloc _).after hb3)
  have Hx3 := Lib.hid ((Hx2.out.alloc _).after hb3)
  have Hy3 := Lib.hid ((show IsBlk _ (w2.heap.size) 25 #[.int .u64 (wd Y 0 : Nat), .int .u64 (wd Y 1 : Nat), .int .u64 (wd Y 2 : Nat), .int .u64 (wd Y 3 : Nat)] from (IsBlk.newAt _ _ rfl)).after hb3)
  have HB3 := Lib.hid (bel_on (bel_al HB2.out _) hb3)
  clear hb3
  clear Hi2 Hx2 HB2
  clear c0 c1 li
  go_wp2_with fail
  refine (K4.out _).mono ?_
  rintro e w4 ⟨rfl, hb4⟩
  have Hi4 := Lib.hid (Hi3.out.after hb4)
  have Hx4 := Lib.hid (Hx3.out.after hb4)
  have Hy4 := Lib.hid (Hy3.out.after hb4)
  have HB4 := Lib.hid (bel_on HB3.out hb4)
  clear hb4
  clear Hi3 Hx3 Hy3 HB3
  have hy := Hy4.out
  have vy0 := hy.cell 0
  have vy1 := hy.cell 1
  have vy2 := hy.cell 2
  have vy3 := hy.cell 3
  simp at vy0 vy1 vy2 vy3
  have frvy := hy.free
  have lvy := hy.lt
  clear hy
  go_wp2_with fail
  refine (K5.out _).mono ?_
  rintro e w5 ⟨rfl, hb5⟩
  have Hi5 := Lib.hid ((Hi4.out.alloc _).after hb5)
  have Hx5 := Lib.hid ((Hx4.out.alloc _).after hb5)
  have Hy5 := Lib.hid ((Hy4.out.alloc _).after hb5)
  have Hb5 := Lib.hid ((show IsBlk _ (w4.heap.size) 25 #[.int .u64 (wd b 0 : Nat), .int .u64 (wd b 1 : Nat), .int .u64 (wd b 2 : Nat), .int .u64 (wd b 3 : Nat)] from (IsBlk.newAt _ _ rfl)).after hb5)
  have HB5 := Lib.hid (bel_on (bel_al HB4.out _) hb5)
  clear vy0 vy1 vy2 vy3 frvy lvy
  clear hb5
  clear Hi4 Hx4 Hy4 HB4
  have hx := Hx5.out
  have vx0 := hx.cell 0
  have vx1 := hx.cell 1
  have vx2 := hx.cell 2
  have vx3 := hx.cell 3
  simp at vx0 vx1 vx2 vx3
  have frvx := hx.free
  have lvx := hx.lt
  clear hx
  go_wp2_with fail
  refine (K6.out _).mono ?_
  rintro e w6 ⟨rfl, hb6⟩
  have Hi6 := Lib.hid (Hi5.out.after hb6)
  have Hx6 := Lib.hid (Hx5.out.after hb6)
  have Hy6 := Lib.hid (Hy5.out.after hb6)
  have Hb6 := Lib.hid (Hb5.out.after hb6)
  have HB6 := Lib.hid (bel_on HB5.out hb6)
  clear vx0 vx1 vx2 vx3 frvx lvx
  clear hb6
  clear Hi5 Hx5 Hy5 Hb5 HB5
  go_upto_region 12 with fail
  refine wp_gen (fun w' => IsBlk w' (w.heap.size) 51 #[.int .u32 (c : Nat), .int .u32 (l : Nat)] ∧ IsBlk w' (w1.heap.size) 25 #[.int .u64 (wd X 0 : Nat), .int .u64 (wd X 1 : Nat), .int .u64 (wd X 2 : Nat), .int .u64 (wd X 3 : Nat)] ∧ IsBlk w' (w2.heap.size) 25 #[.int .u64 (wd Y 0 : Nat), .int .u64 (wd Y 1 : Nat), .int .u64 (wd Y 2 : Nat), .int .u64 (wd Y 3 : Nat)] ∧ IsBlk w' (w4.heap.size) 25 #[.int .u64 (wd b 0 : Nat), .int .u64 (wd b 1 : Nat), .int .u64 (wd b 2 : Nat), .int .u64 (wd b 3 : Nat)] ∧ IsBlk w' (w6.heap.size) 25 #[.int .u64 (wd F 0 : Nat), .int .u64 (wd F 1 : Nat), .int .u64 (wd F 2 : Nat), .int .u64 (wd F 3 : Nat)] ∧ Below w.heap.size w w') ⟨(Hi6.out.alloc _), (Hx6.out.alloc _), (Hy6.out.alloc _), (Hb6.out.alloc _), IsBlk.newAt _ _ rfl, (bel_al HB6.out _)⟩ ?_
  rintro wk ⟨h_i, h_x, h_y, h_b, h_f, hB⟩
  have Hi1 := Lib.hid h_i
  have Hx1 := Lib.hid h_x
  have Hy1 := Lib.hid h_y
  have Hb1 := Lib.hid h_b
  have Hf1 := Lib.hid h_f
  have HB1 := Lib.hid hB
  clear hB h_i h_x h_y h_b h_f Hi6 Hx6 Hy6 Hb6 HB6
  generalize w4.heap.size = gb at *
  generalize w6.heap.size = gf at *
  generalize w1.heap.size = gx at *
  generalize w2.heap.size = gy at *
  go_cut [98] (fun s98 wx => s98 = .bool false ∧ Ext wk wx)
  case first =>
    have hb := Hb1.out
    have vb0 := hb.cell 0
    have vb1 := hb.cell 1
    have vb2 := hb.cell 2
    have vb3 := hb.cell 3
    simp at vb0 vb1 vb2 vb3
    have frvb := hb.free
    have lvb := hb.lt
    clear hb
    have hf := Hf1.out
    have vf0 := hf.cell 0
    have vf1 := hf.cell 1
    have vf2 := hf.cell 2
    have vf3 := hf.cell 3
    simp at vf0 vf1 vf2 vf3
    have frvf := hf.free
    have lvf := hf.lt
    clear hf
    rcases hov with h | ⟨h, h'⟩
    · skip
      go_wp2_with fail
      go_meet
      exact ⟨rfl, Ext.refl _⟩
    · skip
      go_wp2_with fail
      refine (K7.out _).mono ?_
      rintro e q0 ⟨rfl, hq0⟩
      clear vb0 vb1 vb2 vb3 frvb lvb
      clear vf0 vf1 vf2 vf3 frvf lvf
      go_wp2_with fail
      go_meet
      exact ⟨by first | rfl | (simp <;> omega), hq0⟩
  case rest =>
    obtain ⟨rfl, hx0⟩ := hcut
    rename World => wa
    have Hi2 := Lib.hid ((Hi1.out).after hx0)
    have Hx2 := Lib.hid ((Hx1.out).after hx0)
    have Hy2 := Lib.hid ((Hy1.out).after hx0)
    have Hb2 := Lib.hid ((Hb1.out).after hx0)
    have Hf2 := Lib.hid ((Hf1.out).after hx0)
    have HB2 := Lib.hid (bel_on HB1.out hx0)
    clear Hi1 Hx1 Hy1 Hb1 Hf1 HB1
    clear hx0 hov
    have hx := Hx2.out
    have vx0 := hx.cell 0
    have vx1 := hx.cell 1
    have vx2 := hx.cell 2
    have vx3 := hx.cell 3
    simp at vx0 vx1 vx2 vx3
    have frvx := hx.free
    have lvx := hx.lt
    clear hx
    go_wp2_with fail
    clear vx0 vx1 vx2 vx3 frvx lvx
    refine (K8.out _).mono ?_
    rintro e z7 ⟨rfl, hz7⟩
    have Hi3 := Lib.hid ((Hi2.out).after hz7)
    have Hx3 := Lib.hid ((Hx2.out).after hz7)
    have Hy3 := Lib.hid ((Hy2.out).after hz7)
    have Hb3 := Lib.hid ((Hb2.out).after hz7)
    have HB3 := Lib.hid (bel_on HB2.out hz7)
    clear Hi2 Hx2 Hy2 Hb2 HB2
    clear hz7
    have HBS := Lib.hid HB3.out.size
    have HNx := Lib.hid Hx3.out.lt
    have HNy := Lib.hid Hy3.out.lt
    have HNb := Lib.hid Hb3.out.lt
    have HNi := Lib.hid Hi3.out.lt
    have hy := Hy3.out
    have vy0 := hy.cell 0
    have vy1 := hy.cell 1
    have vy2 := hy.cell 2
    have vy3 := hy.cell 3
    simp at vy0 vy1 vy2 vy3
    have frvy := hy.free
    have lvy := hy.lt
    clear hy
    go_wp2_with fail
    clear vy0 vy1 vy2 vy3 frvy lvy
    refine (K9.out _).mono ?_
    rintro e z8 ⟨rfl, hz8⟩
    have Hi4 := Lib.hid (((Hi3.out.alloc _)).after hz8)
    have Hx4 := Lib.hid (((Hx3.out.alloc _)).after hz8)
    have Hy4 := Lib.hid (((Hy3.out.alloc _)).after hz8)
    have Hb4 := Lib.hid (((Hb3.out.alloc _)).after hz8)
    have Hq4 := Lib.hid ((show IsBlk _ (z7.heap.size) 25 #[.int .u64 (wd q 0 : Nat), .int .u64 (wd q 1 : Nat), .int .u64 (wd q 2 : Nat), .int .u64 (wd q 3 : Nat)] from IsBlk.newAt _ _ rfl).after hz8)
    have HB4 := Lib.hid (bel_on (bel_al HB3.out _) hz8)
    clear Hi3 Hx3 Hy3 Hb3 HB3
    clear hz8
    by_cases hM3 : 0 < M3
    · obtain rfl : Y = Q := by rw [hQ, if_pos hM3]
      clear hQ
      have hq := Hq4.out
      have vq0 := hq.cell 0
      have vq1 := hq.cell 1
      have vq2 := hq.cell 2
      have vq3 := hq.cell 3
      simp at vq0 vq1 vq2 vq3
      have frvq := hq.free
      have lvq := hq.lt
      clear hq
      have hy := Hy4.out
      have vy0 := hy.cell 0
      have vy1 := hy.cell 1
      have vy2 := hy.cell 2
      have vy3 := hy.cell 3
      simp at vy0 vy1 vy2 vy3
      have frvy := hy.free
      have lvy := hy.lt
      clear hy
      have hne : gy ≠ z7.heap.size := by have := HNy.out; omega
      go_wp2_with fail
      clear vq0 vq1 vq2 vq3 frvq lvq
      clear vy0 vy1 vy2 vy3 frvy lvy
      have hnx : gx ≠ z7.heap.size := by have := HNx.out; omega
      have hnb : gb ≠ z7.heap.size := by have := HNb.out; omega
      have hni : w.heap.size ≠ z7.heap.size := by have := HNi.out; omega
      refine (K10.out _).mono ?_
      rintro e z9 ⟨rfl, hz9⟩
      have Hi5 := Lib.hid ((far4 (g' := z7.heap.size) (v0 := .int .u64 (wd Y 0 : Nat)) (v1 := .int .u64 (wd Y 1 : Nat)) (v2 := .int .u64 (wd Y 2 : Nat)) (v3 := .int .u64 (wd Y 3 : Nat)) Hi4.out hni).after hz9)
      have Hx5 := Lib.hid ((far4 (g' := z7.heap.size) (v0 := .int .u64 (wd Y 0 : Nat)) (v1 := .int .u64 (wd Y 1 : Nat)) (v2 := .int .u64 (wd Y 2 : Nat)) (v3 := .int .u64 (wd Y 3 : Nat)) Hx4.out hnx).after hz9)
      have Hy5 := Lib.hid ((far4 (g' := z7.heap.size) (v0 := .int .u64 (wd Y 0 : Nat)) (v1 := .int .u64 (wd Y 1 : Nat)) (v2 := .int .u64 (wd Y 2 : Nat)) (v3 := .int .u64 (wd Y 3 : Nat)) Hy4.out hne).after hz9)
      have Hb5 := Lib.hid ((far4 (g' := z7.heap.size) (v0 := .int .u64 (wd Y 0 : Nat)) (v1 := .int .u64 (wd Y 1 : Nat)) (v2 := .int .u64 (wd Y 2 : Nat)) (v3 := .int .u64 (wd Y 3 : Nat)) Hb4.out hnb).after hz9)
      have HB5 := Lib.hid (bel_on (bel4 (g' := z7.heap.size) (v0 := .int .u64 (wd Y 0 : Nat)) (v1 := .int .u64 (wd Y 1 : Nat)) (v2 := .int .u64 (wd Y 2 : Nat)) (v3 := .int .u64 (wd Y 3 : Nat)) HB4.out HBS.out) hz9)
      clear hz9 Hi4 Hx4 Hy4 Hb4 HB4
      go_wp2_with fail
      refine (K11.out _).mono ?_
      rintro e z10 ⟨rfl, hz10⟩
      have Hi6 := Lib.hid ((Hi5.out).after hz10)
      have Hx6 := Lib.hid ((Hx5.out).after hz10)
      have Hy6 := Lib.hid ((Hy5.out).after hz10)
      have Hb6 := Lib.hid ((Hb5.out).after hz10)
      have HB6 := Lib.hid (bel_on HB5.out hz10)
      clear Hi5 Hx5 Hy5 Hb5 HB5
      clear hz10
      go_upto_region 18 with fail
      refine wp_gen (fun w' => IsBlk w' (w.heap.size) 51 #[.int .u32 (c : Nat), .int .u32 (l : Nat)] ∧ IsBlk w' (gx) 25 #[.int .u64 (wd X 0 : Nat), .int .u64 (wd X 1 : Nat), .int .u64 (wd X 2 : Nat), .int .u64 (wd X 3 : Nat)] ∧ IsBlk w' (gy) 25 #[.int .u64 (wd Y 0 : Nat), .int .u64 (wd Y 1 : Nat), .int .u64 (wd Y 2 : Nat), .int .u64 (wd Y 3 : Nat)] ∧ IsBlk w' (gb) 25 #[.int .u64 (wd b 0 : Nat), .int .u64 (wd b 1 : Nat), .int .u64 (wd b 2 : Nat), .int .u64 (wd b 3 : Nat)] ∧ IsBlk w' (z10.heap.size) 25 #[.int .u64 (wd low 0 : Nat), .int .u64 (wd low 1 : Nat), .int .u64 (wd low 2 : Nat), .int .u64 (wd low 3 : Nat)] ∧ Below w.heap.size w w') ⟨(Hi6.out.alloc _), (Hx6.out.alloc _), (Hy6.out.alloc _), (Hb6.out.alloc _), IsBlk.newAt _ _ rfl, (bel_al HB6.out _)⟩ ?_
      rintro wo ⟨h_i, h_x, h_y, h_b, h_o, hB⟩
      have Hi7 := Lib.hid h_i
      have Hx7 := Lib.hid h_x
      have Hy7 := Lib.hid h_y
      have Hb7 := Lib.hid h_b
      have Ho7 := Lib.hid h_o
      have HB7 := Lib.hid hB
      clear hB h_i h_x h_y h_b h_o Hi6 Hx6 Hy6 Hb6 HB6
      go_cut [128] (fun s128 wx => s128 = .bool false ∧ Ext wo wx)
      case first =>
        have hb := Hb7.out
        have vb0 := hb.cell 0
        have vb1 := hb.cell 1
        have vb2 := hb.cell 2
        have vb3 := hb.cell 3
        simp at vb0 vb1 vb2 vb3
        have frvb := hb.free
        have lvb := hb.lt
        clear hb
        have ho := Ho7.out
        have vo0 := ho.cell 0
        have vo1 := ho.cell 1
        have vo2 := ho.cell 2
        have vo3 := ho.cell 3
        simp at vo0 vo1 vo2 vo3
        have frvo := ho.free
        have lvo := ho.lt
        clear ho
        rcases hlow with h | ⟨h, h'⟩ | ⟨h, h', h''⟩
        · skip
          go_wp2_with fail
          go_meet
          exact ⟨by first | rfl | (simp <;> omega), Ext.refl _⟩
        · skip
          go_wp2_with fail
          go_meet
          exact ⟨by first | rfl | (simp <;> omega), Ext.refl _⟩
        · skip
          go_wp2_with fail
          refine (K12.out _).mono ?_
          rintro e q0 ⟨rfl, hq0⟩
          clear vb0 vb1 vb2 vb3 frvb lvb
          clear vo0 vo1 vo2 vo3 frvo lvo
          go_wp2_with fail
          go_meet
          exact ⟨by first | rfl | (simp <;> omega), hq0⟩
      case rest =>
        obtain ⟨rfl, hx0⟩ := hcut
        rename World => wc
        have Hi8 := Lib.hid ((Hi7.out).after hx0)
        have Hx8 := Lib.hid ((Hx7.out).after hx0)
        have Hy8 := Lib.hid ((Hy7.out).after hx0)
        have Hb8 := Lib.hid ((Hb7.out).after hx0)
        have Ho8 := Lib.hid ((Ho7.out).after hx0)
        have HB8 := Lib.hid (bel_on HB7.out hx0)
        clear Hi7 Hx7 Hy7 Hb7 Ho7 HB7
        clear hx0 hlow
        go_upto_region 20 with fail
        go_cut [151] (fun s151 wx => s151 = .bool false ∧ Ext wc wx)
        case first =>
          have hi := Hi8.out
          have hx := Hx8.out
          have hy := Hy8.out
          refine wp_region_seq (S := fun w' => (((w'.cell? ⟨w.heap.size, 0, none⟩ = some (.int .u32 (c : Nat)) ∧ w'.cell? ⟨w.heap.size, 1, none⟩ = some (.int .u32 (l : Nat))) ∧ IsBlk w' gx 25 #[.int .u64 (wd X 0 : Nat), .int .u64 (wd X 1 : Nat), .int .u64 (wd X 2 : Nat), .int .u64 (wd X 3 : Nat)]) ∧ IsBlk w' gy 25 #[.int .u64 (wd Y 0 : Nat), .int .u64 (wd Y 1 : Nat), .int .u64 (wd Y 2 : Nat), .int .u64 (wd Y 3 : Nat)] ∧ Ext wc w')) (by kernel_rfl) (by kernel_rfl) ⟨by have hx2 := hi.drew; exact ⟨⟨hx2.cell 0, hx2.cell 1⟩, hx.drew⟩, hy.drew, (Below.refl _ _).drew⟩ ?_
          have HST := Lib.hid (show ∀ w1' w2', (((w1'.cell? ⟨w.heap.size, 0, none⟩ = some (.int .u32 (c : Nat)) ∧ w1'.cell? ⟨w.heap.size, 1, none⟩ = some (.int .u32 (l : Nat))) ∧ IsBlk w1' gx 25 #[.int .u64 (wd X 0 : Nat), .int .u64 (wd X 1 : Nat), .int .u64 (wd X 2 : Nat), .int .u64 (wd X 3 : Nat)]) ∧ IsBlk w1' gy 25 #[.int .u64 (wd Y 0 : Nat), .int .u64 (wd Y 1 : Nat), .int .u64 (wd Y 2 : Nat), .int .u64 (wd Y 3 : Nat)] ∧ Ext wc w1') → Below w1'.heap.size w1' w2' → (((w2'.cell? ⟨w.heap.size, 0, none⟩ = some (.int .u32 (c : Nat)) ∧ w2'.cell? ⟨w.heap.size, 1, none⟩ = some (.int .u32 (l : Nat))) ∧ IsBlk w2' gx 25 #[.int .u64 (wd X 0 : Nat), .int .u64 (wd X 1 : Nat), .int .u64 (wd X 2 : Nat), .int .u64 (wd X 3 : Nat)]) ∧ IsBlk w2' gy 25 #[.int .u64 (wd Y 0 : Nat), .int .u64 (wd Y 1 : Nat), .int .u64 (wd Y 2 : Nat), .int .u64 (wd Y 3 : Nat)] ∧ Ext wc w2') from fun _ _ h hb => ⟨⟨⟨cell_later hb h.1.1.1, cell_later hb h.1.1.2⟩, h.1.2.after hb⟩, h.2.1.after hb, bel_on h.2.2 hb⟩)
          clear hi hx hy
          rcases hfin with h | ⟨rfl, h⟩ | ⟨rfl, h, rfl⟩
          · skip
            repeat (first
              | (refine SeqS.skip ?_ ?_; rfl; (try simp only [Act.put, List.setIfInBounds_toArray, List.set_cons_zero, List.set_cons_succ]))
              | (refine SeqS.take (v := ?_) ?_ ?_ ?_; rotate_left; rfl; (intro w hS; have i0 := hS.1.1.1; have i1 := hS.1.1.2; have hx := hS.1.2; have x0 := hx.cell 0; have x1 := hx.cell 1; have x2 := hx.cell 2; have x3 := hx.cell 3; have hy := hS.2.1; have y0 := hy.cell 0; have y1 := hy.cell 1; have y2 := hy.cell 2; have y3 := hy.cell 3; simp at x0 x1 x2 x3 y0 y1 y2 y3; have lx := hx.lt; have ly := hy.lt; clear hx hy; go_simp; with_reducible rfl); (try simp only [Act.put, List.setIfInBounds_toArray, List.set_cons_zero, List.set_cons_succ]))
              | (refine SeqS.call (v := ?_) (f := ?_) (args := ?_) ?_ ?_ ?_ ?_; rotate_left 3; rfl; (intro w hS; have i0 := hS.1.1.1; have i1 := hS.1.1.2; have hx := hS.1.2; have x0 := hx.cell 0; have x1 := hx.cell 1; have x2 := hx.cell 2; have x3 := hx.cell 3; have hy := hS.2.1; have y0 := hy.cell 0; have y1 := hy.cell 1; have y2 := hy.cell 2; have y3 := hy.cell 3; simp at x0 x1 x2 x3 y0 y1 y2 y3; have lx := hx.lt; have ly := hy.lt; clear hx hy; go_simp; (first | with_reducible rfl | (refine ⟨?_, ?_⟩ <;> with_reducible rfl))); (intro w hS; first | ((with_reducible refine (K13.out _).mono ?_); rintro e w' ⟨rfl, hb⟩; refine ⟨?_, HST.out _ _ hS hb⟩; with_reducible rfl) | ((with_reducible refine (K14.out _).mono ?_); rintro e w' ⟨rfl, hb⟩; refine ⟨?_, HST.out _ _ hS hb⟩; with_reducible rfl) | ((with_reducible refine (K15.out _).mono ?_); rintro e w' ⟨rfl, hb⟩; refine ⟨?_, HST.out _ _ hS hb⟩; with_reducible rfl)); (try simp only [Act.put, List.setIfInBounds_toArray, List.set_cons_zero, List.set_cons_succ])))
            refine SeqS.done ?_
            rintro wz ⟨_, _, hbz⟩
            go_wp2_with fail
            go_meet
            exact ⟨by first | rfl | (simp <;> omega), hbz⟩
          · skip
            have h5 : decide (M5 ≤ 0) = false := decide_eq_false (by omega)
            have h6 : (M5 ≤ 0) = False := eq_false (by omega)
            repeat (first
              | (refine SeqS.skip ?_ ?_; rfl; (try simp only [Act.put, List.setIfInBounds_toArray, List.set_cons_zero, List.set_cons_succ]))
              | (refine SeqS.take (v := ?_) ?_ ?_ ?_; rotate_left; rfl; (intro w hS; have i0 := hS.1.1.1; have i1 := hS.1.1.2; have hx := hS.1.2; have x0 := hx.cell 0; have x1 := hx.cell 1; have x2 := hx.cell 2; have x3 := hx.cell 3; have hy := hS.2.1; have y0 := hy.cell 0; have y1 := hy.cell 1; have y2 := hy.cell 2; have y3 := hy.cell 3; simp at x0 x1 x2 x3 y0 y1 y2 y3; have lx := hx.lt; have ly := hy.lt; clear hx hy; go_simp; with_reducible rfl); (try simp only [Act.put, List.setIfInBounds_toArray, List.set_cons_zero, List.set_cons_succ]))
              | (refine SeqS.call (v := ?_) (f := ?_) (args := ?_) ?_ ?_ ?_ ?_; rotate_left 3; rfl; (intro w hS; have i0 := hS.1.1.1; have i1 := hS.1.1.2; have hx := hS.1.2; have x0 := hx.cell 0; have x1 := hx.cell 1; have x2 := hx.cell 2; have x3 := hx.cell 3; have hy := hS.2.1; have y0 := hy.cell 0; have y1 := hy.cell 1; have y2 := hy.cell 2; have y3 := hy.cell 3; simp at x0 x1 x2 x3 y0 y1 y2 y3; have lx := hx.lt; have ly := hy.lt; clear hx hy; go_simp; (first | with_reducible rfl | (refine ⟨?_, ?_⟩ <;> with_reducible rfl))); (intro w hS; first | ((with_reducible refine (K13.out _).mono ?_); rintro e w' ⟨rfl, hb⟩; refine ⟨?_, HST.out _ _ hS hb⟩; with_reducible rfl) | ((with_reducible refine (K14.out _).mono ?_); rintro e w' ⟨rfl, hb⟩; refine ⟨?_, HST.out _ _ hS hb⟩; with_reducible rfl) | ((with_reducible refine (K15.out _).mono ?_); rintro e w' ⟨rfl, hb⟩; refine ⟨?_, HST.out _ _ hS hb⟩; with_reducible rfl)); (try simp only [Act.put, List.setIfInBounds_toArray, List.set_cons_zero, List.set_cons_succ])))
            refine SeqS.done ?_
            rintro wz ⟨_, _, hbz⟩
            go_wp2_with fail
            go_meet
            exact ⟨by first | rfl | (simp <;> omega), hbz⟩
          · skip
            repeat (first
              | (refine SeqS.skip ?_ ?_; rfl; (try simp only [Act.put, List.setIfInBounds_toArray, List.set_cons_zero, List.set_cons_succ]))
              | (refine SeqS.take (v := ?_) ?_ ?_ ?_; rotate_left; rfl; (intro w hS; have i0 := hS.1.1.1; have i1 := hS.1.1.2; have hx := hS.1.2; have x0 := hx.cell 0; have x1 := hx.cell 1; have x2 := hx.cell 2; have x3 := hx.cell 3; have hy := hS.2.1; have y0 := hy.cell 0; have y1 := hy.cell 1; have y2 := hy.cell 2; have y3 := hy.cell 3; simp at x0 x1 x2 x3 y0 y1 y2 y3; have lx := hx.lt; have ly := hy.lt; clear hx hy; go_simp; with_reducible rfl); (try simp only [Act.put, List.setIfInBounds_toArray, List.set_cons_zero, List.set_cons_succ]))
              | (refine SeqS.call (v := ?_) (f := ?_) (args := ?_) ?_ ?_ ?_ ?_; rotate_left 3; rfl; (intro w hS; have i0 := hS.1.1.1; have i1 := hS.1.1.2; have hx := hS.1.2; have x0 := hx.cell 0; have x1 := hx.cell 1; have x2 := hx.cell 2; have x3 := hx.cell 3; have hy := hS.2.1; have y0 := hy.cell 0; have y1 := hy.cell 1; have y2 := hy.cell 2; have y3 := hy.cell 3; simp at x0 x1 x2 x3 y0 y1 y2 y3; have lx := hx.lt; have ly := hy.lt; clear hx hy; go_simp; (first | with_reducible rfl | (refine ⟨?_, ?_⟩ <;> with_reducible rfl))); (intro w hS; first | ((with_reducible refine (K13.out _).mono ?_); rintro e w' ⟨rfl, hb⟩; refine ⟨?_, HST.out _ _ hS hb⟩; with_reducible rfl) | ((with_reducible refine (K14.out _).mono ?_); rintro e w' ⟨rfl, hb⟩; refine ⟨?_, HST.out _ _ hS hb⟩; with_reducible rfl) | ((with_reducible refine (K15.out _).mono ?_); rintro e w' ⟨rfl, hb⟩; refine ⟨?_, HST.out _ _ hS hb⟩; with_reducible rfl)); (try simp only [Act.put, List.setIfInBounds_toArray, List.set_cons_zero, List.set_cons_succ])))
            refine SeqS.done ?_
            rintro wz ⟨_, _, hbz⟩
            go_wp2_with fail
            go_meet
            exact ⟨by first | rfl | (simp <;> omega), hbz⟩
        case rest =>
          obtain ⟨rfl, hx0⟩ := hcut
          rename World => wd'
          have Hi9 := Lib.hid ((Hi8.out).after hx0)
          have Hx9 := Lib.hid ((Hx8.out).after hx0)
          have Hy9 := Lib.hid ((Hy8.out).after hx0)
          have Hb9 := Lib.hid ((Hb8.out).after hx0)
          have Ho9 := Lib.hid ((Ho8.out).after hx0)
          have HB9 := Lib.hid (bel_on HB8.out hx0)
          clear Hi8 Hx8 Hy8 Hb8 Ho8 HB8
          clear hx0 hfin
          go_wp2_with fail
          refine (AW.out _).mono ?_
          rintro e wz ⟨rfl, hbz⟩
          go_wp2_with fail
          go_ret
          exact ⟨rfl, bel_on HB9.out hbz⟩
    · obtain rfl : q = Q := by rw [hQ, if_neg hM3]
      clear hQ
      have hq := Hq4.out
      have vq0 := hq.cell 0
      have vq1 := hq.cell 1
      have vq2 := hq.cell 2
      have vq3 := hq.cell 3
      simp at vq0 vq1 vq2 vq3
      have frvq := hq.free
      have lvq := hq.lt
      clear hq
      go_wp2_with fail
      clear vq0 vq1 vq2 vq3 frvq lvq
      refine (K10.out _).mono ?_
      rintro e z9 ⟨rfl, hz9⟩
      have Hi5 := Lib.hid ((Hi4.out).after hz9)
      have Hx5 := Lib.hid ((Hx4.out).after hz9)
      have Hy5 := Lib.hid ((Hy4.out).after hz9)
      have Hb5 := Lib.hid ((Hb4.out).after hz9)
      have Hq5 := Lib.hid ((Hq4.out).after hz9)
      have HB5 := Lib.hid (bel_on HB4.out hz9)
      clear Hi4 Hx4 Hy4 Hb4 Hq4 HB4
      clear hz9
      go_wp2_with fail
      refine (K11.out _).mono ?_
      rintro e z10 ⟨rfl, hz10⟩
      have Hi6 := Lib.hid ((Hi5.out).after hz10)
      have Hx6 := Lib.hid ((Hx5.out).after hz10)
      have Hy6 := Lib.hid ((Hy5.out).after hz10)
      have Hb6 := Lib.hid ((Hb5.out).after hz10)
      have Hq6 := Lib.hid ((Hq5.out).after hz10)
      have HB6 := Lib.hid (bel_on HB5.out hz10)
      clear Hi5 Hx5 Hy5 Hb5 Hq5 HB5
      clear hz10
      go_upto_region 18 with fail
      refine wp_gen (fun w' => IsBlk w' (w.heap.size) 51 #[.int .u32 (c : Nat), .int .u32 (l : Nat)] ∧ IsBlk w' (gx) 25 #[.int .u64 (wd X 0 : Nat), .int .u64 (wd X 1 : Nat), .int .u64 (wd X 2 : Nat), .int .u64 (wd X 3 : Nat)] ∧ IsBlk w' (gy) 25 #[.int .u64 (wd Y 0 : Nat), .int .u64 (wd Y 1 : Nat), .int .u64 (wd Y 2 : Nat), .int .u64 (wd Y 3 : Nat)] ∧ IsBlk w' (gb) 25 #[.int .u64 (wd b 0 : Nat), .int .u64 (wd b 1 : Nat), .int .u64 (wd b 2 : Nat), .int .u64 (wd b 3 : Nat)] ∧ IsBlk w' (z7.heap.size) 25 #[.int .u64 (wd q 0 : Nat), .int .u64 (wd q 1 : Nat), .int .u64 (wd q 2 : Nat), .int .u64 (wd q 3 : Nat)] ∧ IsBlk w' (z10.heap.size) 25 #[.int .u64 (wd low 0 : Nat), .int .u64 (wd low 1 : Nat), .int .u64 (wd low 2 : Nat), .int .u64 (wd low 3 : Nat)] ∧ Below w.heap.size w w') ⟨(Hi6.out.alloc _), (Hx6.out.alloc _), (Hy6.out.alloc _), (Hb6.out.alloc _), (Hq6.out.alloc _), IsBlk.newAt _ _ rfl, (bel_al HB6.out _)⟩ ?_
      rintro wo ⟨h_i, h_x, h_y, h_b, h_q, h_o, hB⟩
      have Hi7 := Lib.hid h_i
      have Hx7 := Lib.hid h_x
      have Hy7 := Lib.hid h_y
      have Hb7 := Lib.hid h_b
      have Hq7 := Lib.hid h_q
      have Ho7 := Lib.hid h_o
      have HB7 := Lib.hid hB
      clear hB h_i h_x h_y h_b h_q h_o Hi6 Hx6 Hy6 Hb6 Hq6 HB6
      go_cut [128] (fun s128 wx => s128 = .bool false ∧ Ext wo wx)
      case first =>
        have hb := Hb7.out
        have vb0 := hb.cell 0
        have vb1 := hb.cell 1
        have vb2 := hb.cell 2
        have vb3 := hb.cell 3
        simp at vb0 vb1 vb2 vb3
        have frvb := hb.free
        have lvb := hb.lt
        clear hb
        have ho := Ho7.out
        have vo0 := ho.cell 0
        have vo1 := ho.cell 1
        have vo2 := ho.cell 2
        have vo3 := ho.cell 3
        simp at vo0 vo1 vo2 vo3
        have frvo := ho.free
        have lvo := ho.lt
        clear ho
        rcases hlow with h | ⟨h, h'⟩ | ⟨h, h', h''⟩
        · skip
          go_wp2_with fail
          go_meet
          exact ⟨by first | rfl | (simp <;> omega), Ext.refl _⟩
        · skip
          go_wp2_with fail
          go_meet
          exact ⟨by first | rfl | (simp <;> omega), Ext.refl _⟩
        · skip
          go_wp2_with fail
          refine (K12.out _).mono ?_
          rintro e q0 ⟨rfl, hq0⟩
          clear vb0 vb1 vb2 vb3 frvb lvb
          clear vo0 vo1 vo2 vo3 frvo lvo
          go_wp2_with fail
          go_meet
          exact ⟨by first | rfl | (simp <;> omega), hq0⟩
      case rest =>
        obtain ⟨rfl, hx0⟩ := hcut
        rename World => wc
        have Hi8 := Lib.hid ((Hi7.out).after hx0)
        have Hx8 := Lib.hid ((Hx7.out).after hx0)
        have Hy8 := Lib.hid ((Hy7.out).after hx0)
        have Hb8 := Lib.hid ((Hb7.out).after hx0)
        have Hq8 := Lib.hid ((Hq7.out).after hx0)
        have Ho8 := Lib.hid ((Ho7.out).after hx0)
        have HB8 := Lib.hid (bel_on HB7.out hx0)
        clear Hi7 Hx7 Hy7 Hb7 Hq7 Ho7 HB7
        clear hx0 hlow
        go_upto_region 20 with fail
        go_cut [151] (fun s151 wx => s151 = .bool false ∧ Ext wc wx)
        case first =>
          have hi := Hi8.out
          have hx := Hx8.out
          have hy := Hy8.out
          refine wp_region_seq (S := fun w' => (((w'.cell? ⟨w.heap.size, 0, none⟩ = some (.int .u32 (c : Nat)) ∧ w'.cell? ⟨w.heap.size, 1, none⟩ = some (.int .u32 (l : Nat))) ∧ IsBlk w' gx 25 #[.int .u64 (wd X 0 : Nat), .int .u64 (wd X 1 : Nat), .int .u64 (wd X 2 : Nat), .int .u64 (wd X 3 : Nat)]) ∧ IsBlk w' gy 25 #[.int .u64 (wd Y 0 : Nat), .int .u64 (wd Y 1 : Nat), .int .u64 (wd Y 2 : Nat), .int .u64 (wd Y 3 : Nat)] ∧ Ext wc w')) (by kernel_rfl) (by kernel_rfl) ⟨by have hx2 := hi.drew; exact ⟨⟨hx2.cell 0, hx2.cell 1⟩, hx.drew⟩, hy.drew, (Below.refl _ _).drew⟩ ?_
          have HST := Lib.hid (show ∀ w1' w2', (((w1'.cell? ⟨w.heap.size, 0, none⟩ = some (.int .u32 (c : Nat)) ∧ w1'.cell? ⟨w.heap.size, 1, none⟩ = some (.int .u32 (l : Nat))) ∧ IsBlk w1' gx 25 #[.int .u64 (wd X 0 : Nat), .int .u64 (wd X 1 : Nat), .int .u64 (wd X 2 : Nat), .int .u64 (wd X 3 : Nat)]) ∧ IsBlk w1' gy 25 #[.int .u64 (wd Y 0 : Nat), .int .u64 (wd Y 1 : Nat), .int .u64 (wd Y 2 : Nat), .int .u64 (wd Y 3 : Nat)] ∧ Ext wc w1') → Below w1'.heap.size w1' w2' → (((w2'.cell? ⟨w.heap.size, 0, none⟩ = some (.int .u32 (c : Nat)) ∧ w2'.cell? ⟨w.heap.size, 1, none⟩ = some (.int .u32 (l : Nat))) ∧ IsBlk w2' gx 25 #[.int .u64 (wd X 0 : Nat), .int .u64 (wd X 1 : Nat), .int .u64 (wd X 2 : Nat), .int .u64 (wd X 3 : Nat)]) ∧ IsBlk w2' gy 25 #[.int .u64 (wd Y 0 : Nat), .int .u64 (wd Y 1 : Nat), .int .u64 (wd Y 2 : Nat), .int .u64 (wd Y 3 : Nat)] ∧ Ext wc w2') from fun _ _ h hb => ⟨⟨⟨cell_later hb h.1.1.1, cell_later hb h.1.1.2⟩, h.1.2.after hb⟩, h.2.1.after hb, bel_on h.2.2 hb⟩)
          clear hi hx hy
          rcases hfin with h | ⟨rfl, h⟩ | ⟨rfl, h, rfl⟩
          · skip
            repeat (first
              | (refine SeqS.skip ?_ ?_; rfl; (try simp only [Act.put, List.setIfInBounds_toArray, List.set_cons_zero, List.set_cons_succ]))
              | (refine SeqS.take (v := ?_) ?_ ?_ ?_; rotate_left; rfl; (intro w hS; have i0 := hS.1.1.1; have i1 := hS.1.1.2; have hx := hS.1.2; have x0 := hx.cell 0; have x1 := hx.cell 1; have x2 := hx.cell 2; have x3 := hx.cell 3; have hy := hS.2.1; have y0 := hy.cell 0; have y1 := hy.cell 1; have y2 := hy.cell 2; have y3 := hy.cell 3; simp at x0 x1 x2 x3 y0 y1 y2 y3; have lx := hx.lt; have ly := hy.lt; clear hx hy; go_simp; with_reducible rfl); (try simp only [Act.put, List.setIfInBounds_toArray, List.set_cons_zero, List.set_cons_succ]))
              | (refine SeqS.call (v := ?_) (f := ?_) (args := ?_) ?_ ?_ ?_ ?_; rotate_left 3; rfl; (intro w hS; have i0 := hS.1.1.1; have i1 := hS.1.1.2; have hx := hS.1.2; have x0 := hx.cell 0; have x1 := hx.cell 1; have x2 := hx.cell 2; have x3 := hx.cell 3; have hy := hS.2.1; have y0 := hy.cell 0; have y1 := hy.cell 1; have y2 := hy.cell 2; have y3 := hy.cell 3; simp at x0 x1 x2 x3 y0 y1 y2 y3; have lx := hx.lt; have ly := hy.lt; clear hx hy; go_simp; (first | with_reducible rfl | (refine ⟨?_, ?_⟩ <;> with_reducible rfl))); (intro w hS; first | ((with_reducible refine (K13.out _).mono ?_); rintro e w' ⟨rfl, hb⟩; refine ⟨?_, HST.out _ _ hS hb⟩; with_reducible rfl) | ((with_reducible refine (K14.out _).mono ?_); rintro e w' ⟨rfl, hb⟩; refine ⟨?_, HST.out _ _ hS hb⟩; with_reducible rfl) | ((with_reducible refine (K15.out _).mono ?_); rintro e w' ⟨rfl, hb⟩; refine ⟨?_, HST.out _ _ hS hb⟩; with_reducible rfl)); (try simp only [Act.put, List.setIfInBounds_toArray, List.set_cons_zero, List.set_cons_succ])))
            refine SeqS.done ?_
            rintro wz ⟨_, _, hbz⟩
            go_wp2_with fail
            go_meet
            exact ⟨by first | rfl | (simp <;> omega), hbz⟩
          · skip
            have h5 : decide (M5 ≤ 0) = false := decide_eq_false (by omega)
            have h6 : (M5 ≤ 0) = False := eq_false (by omega)
            repeat (first
              | (refine SeqS.skip ?_ ?_; rfl; (try simp only [Act.put, List.setIfInBounds_toArray, List.set_cons_zero, List.set_cons_succ]))
              | (refine SeqS.take (v := ?_) ?_ ?_ ?_; rotate_left; rfl; (intro w hS; have i0 := hS.1.1.1; have i1 := hS.1.1.2; have hx := hS.1.2; have x0 := hx.cell 0; have x1 := hx.cell 1; have x2 := hx.cell 2; have x3 := hx.cell 3; have hy := hS.2.1; have y0 := hy.cell 0; have y1 := hy.cell 1; have y2 := hy.cell 2; have y3 := hy.cell 3; simp at x0 x1 x2 x3 y0 y1 y2 y3; have lx := hx.lt; have ly := hy.lt; clear hx hy; go_simp; with_reducible rfl); (try simp only [Act.put, List.setIfInBounds_toArray, List.set_cons_zero, List.set_cons_succ]))
              | (refine SeqS.call (v := ?_) (f := ?_) (args := ?_) ?_ ?_ ?_ ?_; rotate_left 3; rfl; (intro w hS; have i0 := hS.1.1.1; have i1 := hS.1.1.2; have hx := hS.1.2; have x0 := hx.cell 0; have x1 := hx.cell 1; have x2 := hx.cell 2; have x3 := hx.cell 3; have hy := hS.2.1; have y0 := hy.cell 0; have y1 := hy.cell 1; have y2 := hy.cell 2; have y3 := hy.cell 3; simp at x0 x1 x2 x3 y0 y1 y2 y3; have lx := hx.lt; have ly := hy.lt; clear hx hy; go_simp; (first | with_reducible rfl | (refine ⟨?_, ?_⟩ <;> with_reducible rfl))); (intro w hS; first | ((with_reducible refine (K13.out _).mono ?_); rintro e w' ⟨rfl, hb⟩; refine ⟨?_, HST.out _ _ hS hb⟩; with_reducible rfl) | ((with_reducible refine (K14.out _).mono ?_); rintro e w' ⟨rfl, hb⟩; refine ⟨?_, HST.out _ _ hS hb⟩; with_reducible rfl) | ((with_reducible refine (K15.out _).mono ?_); rintro e w' ⟨rfl, hb⟩; refine ⟨?_, HST.out _ _ hS hb⟩; with_reducible rfl)); (try simp only [Act.put, List.setIfInBounds_toArray, List.set_cons_zero, List.set_cons_succ])))
            refine SeqS.done ?_
            rintro wz ⟨_, _, hbz⟩
            go_wp2_with fail
            go_meet
            exact ⟨by first | rfl | (simp <;> omega), hbz⟩
          · skip
            repeat (first
              | (refine SeqS.skip ?_ ?_; rfl; (try simp only [Act.put, List.setIfInBounds_toArray, List.set_cons_zero, List.set_cons_succ]))
              | (refine SeqS.take (v := ?_) ?_ ?_ ?_; rotate_left; rfl; (intro w hS; have i0 := hS.1.1.1; have i1 := hS.1.1.2; have hx := hS.1.2; have x0 := hx.cell 0; have x1 := hx.cell 1; have x2 := hx.cell 2; have x3 := hx.cell 3; have hy := hS.2.1; have y0 := hy.cell 0; have y1 := hy.cell 1; have y2 := hy.cell 2; have y3 := hy.cell 3; simp at x0 x1 x2 x3 y0 y1 y2 y3; have lx := hx.lt; have ly := hy.lt; clear hx hy; go_simp; with_reducible rfl); (try simp only [Act.put, List.setIfInBounds_toArray, List.set_cons_zero, List.set_cons_succ]))
              | (refine SeqS.call (v := ?_) (f := ?_) (args := ?_) ?_ ?_ ?_ ?_; rotate_left 3; rfl; (intro w hS; have i0 := hS.1.1.1; have i1 := hS.1.1.2; have hx := hS.1.2; have x0 := hx.cell 0; have x1 := hx.cell 1; have x2 := hx.cell 2; have x3 := hx.cell 3; have hy := hS.2.1; have y0 := hy.cell 0; have y1 := hy.cell 1; have y2 := hy.cell 2; have y3 := hy.cell 3; simp at x0 x1 x2 x3 y0 y1 y2 y3; have lx := hx.lt; have ly := hy.lt; clear hx hy; go_simp; (first | with_reducible rfl | (refine ⟨?_, ?_⟩ <;> with_reducible rfl))); (intro w hS; first | ((with_reducible refine (K13.out _).mono ?_); rintro e w' ⟨rfl, hb⟩; refine ⟨?_, HST.out _ _ hS hb⟩; with_reducible rfl) | ((with_reducible refine (K14.out _).mono ?_); rintro e w' ⟨rfl, hb⟩; refine ⟨?_, HST.out _ _ hS hb⟩; with_reducible rfl) | ((with_reducible refine (K15.out _).mono ?_); rintro e w' ⟨rfl, hb⟩; refine ⟨?_, HST.out _ _ hS hb⟩; with_reducible rfl)); (try simp only [Act.put, List.setIfInBounds_toArray, List.set_cons_zero, List.set_cons_succ])))
            refine SeqS.done ?_
            rintro wz ⟨_, _, hbz⟩
            go_wp2_with fail
            go_meet
            exact ⟨by first | rfl | (simp <;> omega), hbz⟩
        case rest =>
          obtain ⟨rfl, hx0⟩ := hcut
          rename World => wd'
          have Hi9 := Lib.hid ((Hi8.out).after hx0)
          have Hx9 := Lib.hid ((Hx8.out).after hx0)
          have Hy9 := Lib.hid ((Hy8.out).after hx0)
          have Hb9 := Lib.hid ((Hb8.out).after hx0)
          have Hq9 := Lib.hid ((Hq8.out).after hx0)
          have Ho9 := Lib.hid ((Ho8.out).after hx0)
          have HB9 := Lib.hid (bel_on HB8.out hx0)
          clear Hi8 Hx8 Hy8 Hb8 Hq8 Ho8 HB8
          clear hx0 hfin
          go_wp2_with fail
          refine (AW.out _).mono ?_
          rintro e wz ⟨rfl, hbz⟩
          go_wp2_with fail
          go_ret
          exact ⟨rfl, bel_on HB9.out hbz⟩
end Go.Proofs.Ythmaijmjhfngpaa
