/- The law of order: a smaller target is no less work. -/
import Derived.Test.YthmaijmjhfngpaaTgM
import Derived.Test.YthmaijmjhfngpaaSeqU
namespace Go.Proofs.Ythmaijmjhfngpaa
open Go.RowKit

set_option maxRecDepth 100000 in
set_option maxHeartbeats 32000000 in
theorem order_case0 (b0 b1 b2 X Y V U N Z q r R1 D : Nat) (M1 M2 m n : Int) (ov1 ov2 ov3 : Bool) (ch : Array Value) (hch : ch.size = 32) (w : World)
    (hMN : (M1 < 0 ∧ ¬ 0 ≤ M1 ∧ ¬ M2 < 0) ∨ (M1 = 0 ∧ ¬ M2 < 0 ∧ ¬ 0 < M2 ∧ True) ∨ (0 < M1 ∧ ¬ M1 ≤ 0 ∧ ¬ 0 < M2))
    (hmn : ¬ M1 ≤ 0 ∨ (M1 ≤ 0 ∧ (m == 0) = false) ∨ (M1 ≤ 0 ∧ (m == 0) = true ∧ (n == 10) = false))
    (hF : q = V)
    (EV : ∀ w, (binOp .eql 25 (.agg #[.int .u64 (wd V 0 : Nat), .int .u64 (wd V 1 : Nat), .int .u64 (wd V 2 : Nat), .int .u64 (wd V 3 : Nat)]) (.agg #[.int .u64 0, .int .u64 0, .int .u64 0, .int .u64 0])).run Try.prog w = .ok (.bool false) w)
    (EU : ∀ w, (binOp .eql 25 (.agg #[.int .u64 (wd U 0 : Nat), .int .u64 (wd U 1 : Nat), .int .u64 (wd U 2 : Nat), .int .u64 (wd U 3 : Nat)]) (.agg #[.int .u64 0, .int .u64 0, .int .u64 0, .int .u64 0])).run Try.prog w = .ok (.bool false) w)
    (ER : ∀ w, (binOp .eql 25 (.agg #[.int .u64 (wd R1 0 : Nat), .int .u64 (wd R1 1 : Nat), .int .u64 (wd R1 2 : Nat), .int .u64 (wd R1 3 : Nat)]) (.agg #[.int .u64 (wd N 0 : Nat), .int .u64 (wd N 1 : Nat), .int .u64 (wd N 2 : Nat), .int .u64 (wd N 3 : Nat)])).run Try.prog w = .ok (.bool false) w)
    (K1 : Hid (∀ w, Calls Try.prog 10 #[.int .u32 b0] w (BRet (.tuple #[.agg #[.int .u64 (wd X 0 : Nat), .int .u64 (wd X 1 : Nat), .int .u64 (wd X 2 : Nat), .int .u64 (wd X 3 : Nat)], .int .i64 0]) w)))
    (K2 : Hid (∀ w, Calls Try.prog 10 #[.int .u32 b1] w (BRet (.tuple #[.agg #[.int .u64 (wd Y 0 : Nat), .int .u64 (wd Y 1 : Nat), .int .u64 (wd Y 2 : Nat), .int .u64 (wd Y 3 : Nat)], .int .i64 0]) w)))
    (KV : Hid (∀ w, Calls Try.prog 17 #[.int .u32 b0] w (BRet (.agg #[.int .u64 (wd V 0 : Nat), .int .u64 (wd V 1 : Nat), .int .u64 (wd V 2 : Nat), .int .u64 (wd V 3 : Nat)]) w)))
    (KU : Hid (∀ w, Calls Try.prog 17 #[.int .u32 b1] w (BRet (.agg #[.int .u64 (wd U 0 : Nat), .int .u64 (wd U 1 : Nat), .int .u64 (wd U 2 : Nat), .int .u64 (wd U 3 : Nat)]) w)))
    (K3 : Hid (∀ w, Calls Try.prog 19 #[.agg #[.int .u64 (wd X 0 : Nat), .int .u64 (wd X 1 : Nat), .int .u64 (wd X 2 : Nat), .int .u64 (wd X 3 : Nat)], .agg #[.int .u64 (wd Y 0 : Nat), .int .u64 (wd Y 1 : Nat), .int .u64 (wd Y 2 : Nat), .int .u64 (wd Y 3 : Nat)]] w (BRet (.int .i64 M1) w)))
    (K4 : Hid (∀ w, Calls Try.prog 19 #[.agg #[.int .u64 (wd V 0 : Nat), .int .u64 (wd V 1 : Nat), .int .u64 (wd V 2 : Nat), .int .u64 (wd V 3 : Nat)], .agg #[.int .u64 (wd U 0 : Nat), .int .u64 (wd U 1 : Nat), .int .u64 (wd U 2 : Nat), .int .u64 (wd U 3 : Nat)]] w (BRet (.int .i64 M2) w)))
    (KM : Hid (∀ w, Calls Try.prog 15 #[.agg ch, .int .u32 b0, .int .u32 b2] w (BRet (.int .i64 m) w)))
    (KN : Hid (∀ w, Calls Try.prog 15 #[.agg ch, .int .u32 b1, .int .u32 b2] w (BRet (.int .i64 n) w)))
    (KO : Hid (∀ w, Calls Try.prog 23 #[.int .u64 1] w (BRet (.agg #[.int .u64 1, .int .u64 0, .int .u64 0, .int .u64 0]) w)))
    (K5 : Hid (∀ w, Calls Try.prog 22 #[.agg #[.int .u64 (wd X 0 : Nat), .int .u64 (wd X 1 : Nat), .int .u64 (wd X 2 : Nat), .int .u64 (wd X 3 : Nat)], .agg #[.int .u64 1, .int .u64 0, .int .u64 0, .int .u64 0]] w (BRet (.tuple #[.agg #[.int .u64 (wd N 0 : Nat), .int .u64 (wd N 1 : Nat), .int .u64 (wd N 2 : Nat), .int .u64 (wd N 3 : Nat)], .bool ov1]) w)))
    (K6 : Hid (∀ w, Calls Try.prog 25 #[.agg #[.int .u64 0, .int .u64 0, .int .u64 0, .int .u64 0]] w (BRet (.agg #[.int .u64 (wd Z 0 : Nat), .int .u64 (wd Z 1 : Nat), .int .u64 (wd Z 2 : Nat), .int .u64 (wd Z 3 : Nat)]) w)))
    (K7 : Hid (∀ w, Calls Try.prog 24 #[.agg #[.int .u64 (wd Z 0 : Nat), .int .u64 (wd Z 1 : Nat), .int .u64 (wd Z 2 : Nat), .int .u64 (wd Z 3 : Nat)], .agg #[.int .u64 (wd N 0 : Nat), .int .u64 (wd N 1 : Nat), .int .u64 (wd N 2 : Nat), .int .u64 (wd N 3 : Nat)]] w (BRet (.tuple #[.agg #[.int .u64 (wd q 0 : Nat), .int .u64 (wd q 1 : Nat), .int .u64 (wd q 2 : Nat), .int .u64 (wd q 3 : Nat)], .agg #[.int .u64 (wd r 0 : Nat), .int .u64 (wd r 1 : Nat), .int .u64 (wd r 2 : Nat), .int .u64 (wd r 3 : Nat)], .int .i64 0]) w)))
    (K8 : Hid (∀ w, Calls Try.prog 22 #[.agg #[.int .u64 (wd r 0 : Nat), .int .u64 (wd r 1 : Nat), .int .u64 (wd r 2 : Nat), .int .u64 (wd r 3 : Nat)], .agg #[.int .u64 1, .int .u64 0, .int .u64 0, .int .u64 0]] w (BRet (.tuple #[.agg #[.int .u64 (wd R1 0 : Nat), .int .u64 (wd R1 1 : Nat), .int .u64 (wd R1 2 : Nat), .int .u64 (wd R1 3 : Nat)], .bool ov2]) w)))
    (K9 : Hid (∀ w, Calls Try.prog 22 #[.agg #[.int .u64 (wd q 0 : Nat), .int .u64 (wd q 1 : Nat), .int .u64 (wd q 2 : Nat), .int .u64 (wd q 3 : Nat)], .agg #[.int .u64 1, .int .u64 0, .int .u64 0, .int .u64 0]] w (BRet (.tuple #[.agg #[.int .u64 (wd D 0 : Nat), .int .u64 (wd D 1 : Nat), .int .u64 (wd D 2 : Nat), .int .u64 (wd D 3 : Nat)], .bool ov3]) w)))
    (AW : Hid (∀ w, Calls Try.prog 14 #[] w (BRet (.bool true) w))) :
    Calls Try.prog 6 #[.agg #[.int .u32 (b0 : Nat), .int .u32 (b1 : Nat), .int .u32 (b2 : Nat)], .agg ch] w (BRet (.bool true) w) := by
  have HCH := Lib.hid hch
  clear hch
  have HF := Lib.hid hF
  clear hF
  have EE := eqW_same (wd V 0 : Nat) (wd V 1 : Nat) (wd V 2 : Nat) (wd V 3 : Nat)
  go_enter Try.func6, Try.ntmps6
  go_wp2_with fail
  refine (K1.out _).mono ?_
  rintro e w1 ⟨rfl, hb1⟩
  have Hi1 := Lib.hid ((show IsBlk _ (w.heap.size) 45 #[.int .u32 (b0 : Nat), .int .u32 (b1 : Nat), .int .u32 (b2 : Nat)] from ((IsBlk.newAt _ _ rfl).alloc _)).after hb1)
  have Hh1 := Lib.hid ((show IsBlk _ (w.heap.size + 1) 35 ch from (IsBlk.newAt _ _ (by simp))).after hb1)
  have HB1 := Lib.hid ((show Below w.heap.size w _ from by repeat' (first | exact Below.refl _ _ | refine bel_drewN ?_ _ | refine Below.drew ?_ | refine Below.alloc ?_ ?_ _ | refine Below.setCell ?_ ?_ _ | exact Nat.le_refl _ | (simp; done) | (simp; omega) | assumption)).trans (hb1.mono (by simp <;> omega)))
  clear hb1
  have hi := Hi1.out
  have c0 := hi.cell 0
  have c1 := hi.cell 1
  have c2 := hi.cell 2
  simp at c0 c1 c2
  have li := hi.lt
  clear hi
  go_wp2_with fail
  refine (K2.out _).mono ?_
  rintro e w2 ⟨rfl, hb2⟩
  have Hi2 := Lib.hid ((Hi1.out.alloc _).after hb2)
  have Hh2 := Lib.hid ((Hh1.out.alloc _).after hb2)
  have Hx2 := Lib.hid ((show IsBlk _ (w1.heap.size) 25 #[.int .u64 (wd X 0 : Nat), .int .u64 (wd X 1 : Nat), .int .u64 (wd X 2 : Nat), .int .u64 (wd X 3 : Nat)] from (IsBlk.newAt _ _ rfl)).after hb2)
  have HB2 := Lib.hid (bel_on (bel_al HB1.out _) hb2)
  clear hb2
  clear Hi1 Hh1 HB1
  clear c0 c1 c2 li
  go_upto_region 5 with fail
  refine wp_gen (fun w' => IsBlk w' (w.heap.size) 45 #[.int .u32 (b0 : Nat), .int .u32 (b1 : Nat), .int .u32 (b2 : Nat)] ∧ IsBlk w' (w.heap.size + 1) 35 ch ∧ IsBlk w' (w1.heap.size) 25 #[.int .u64 (wd X 0 : Nat), .int .u64 (wd X 1 : Nat), .int .u64 (wd X 2 : Nat), .int .u64 (wd X 3 : Nat)] ∧ IsBlk w' (w2.heap.size) 25 #[.int .u64 (wd Y 0 : Nat), .int .u64 (wd Y 1 : Nat), .int .u64 (wd Y 2 : Nat), .int .u64 (wd Y 3 : Nat)] ∧ Below w.heap.size w w') ⟨Hi2.out.alloc _, Hh2.out.alloc _, Hx2.out.alloc _, IsBlk.newAt _ _ rfl, bel_al HB2.out _⟩ ?_
  rintro wk ⟨h_i, h_h, h_x, h_y, hB⟩
  generalize w2.heap.size = gy at *
  generalize w1.heap.size = gx at *
  have Hi1 := Lib.hid h_i
  have Hh1 := Lib.hid h_h
  have Hx1 := Lib.hid h_x
  have Hy1 := Lib.hid h_y
  have HB1 := Lib.hid hB
  clear hB h_i h_h h_x h_y
  go_cut [9, 10] (fun s9 s10 wx => ∃ gv gu : Nat, s9 = .pointer (some ⟨gv, 0, none⟩) ∧ s10 = .pointer (some ⟨gu, 0, none⟩) ∧ wk.heap.size ≤ gv ∧ Ext wk wx ∧ IsBlk wx gv 25 #[.int .u64 (wd V 0 : Nat), .int .u64 (wd V 1 : Nat), .int .u64 (wd V 2 : Nat), .int .u64 (wd V 3 : Nat)] ∧ IsBlk wx gu 25 #[.int .u64 (wd U 0 : Nat), .int .u64 (wd U 1 : Nat), .int .u64 (wd U 2 : Nat), .int .u64 (wd U 3 : Nat)])
  case first =>
    refine Held.start 10 (Ext wk) (by kernel_rfl) rfl (Below.refl _ _).drew ?_
    (first | (refine Held.skip (i := 0) rfl (by kernel_rfl) (fun _ _ _ h => h) rfl ?_; (try (try simp only [Act.put, List.setIfInBounds_toArray, List.set_cons_zero, List.set_cons_succ]))) | (refine Held.take (i := 0) (v := ?_) rfl (by kernel_rfl) (fun _ _ _ h => h) rfl ?_ ?_; rotate_left; (intro w hS; have hE := hS; have hi := Hi1.out.after hE; have i0 := hi.cell 0; have i1 := hi.cell 1; have i2 := hi.cell 2; simp at i0 i1 i2; go_simp; with_reducible rfl); (try (try simp only [Act.put, List.setIfInBounds_toArray, List.set_cons_zero, List.set_cons_succ]))))
    (first | (refine Held.skip (i := 1) rfl (by kernel_rfl) (fun _ _ _ h => h) rfl ?_; (try (try simp only [Act.put, List.setIfInBounds_toArray, List.set_cons_zero, List.set_cons_succ]))) | (refine Held.take (i := 1) (v := ?_) rfl (by kernel_rfl) (fun _ _ _ h => h) rfl ?_ ?_; rotate_left; (intro w hS; have hE := hS; have hi := Hi1.out.after hE; have i0 := hi.cell 0; have i1 := hi.cell 1; have i2 := hi.cell 2; simp at i0 i1 i2; go_simp; with_reducible rfl); (try (try simp only [Act.put, List.setIfInBounds_toArray, List.set_cons_zero, List.set_cons_succ]))))
    (first | (refine Held.skip (i := 3) rfl (by kernel_rfl) (fun _ _ _ h => h) rfl ?_; (try (try simp only [Act.put, List.setIfInBounds_toArray, List.set_cons_zero, List.set_cons_succ]))) | (refine Held.take (i := 3) (v := ?_) rfl (by kernel_rfl) (fun _ _ _ h => h) rfl ?_ ?_; rotate_left; (intro w hS; have hE := hS; have hi := Hi1.out.after hE; have i0 := hi.cell 0; have i1 := hi.cell 1; have i2 := hi.cell 2; simp at i0 i1 i2; go_simp; with_reducible rfl); (try (try simp only [Act.put, List.setIfInBounds_toArray, List.set_cons_zero, List.set_cons_succ]))))
    (first | (refine Held.skip (i := 4) rfl (by kernel_rfl) (fun _ _ _ h => h) rfl ?_; (try (try simp only [Act.put, List.setIfInBounds_toArray, List.set_cons_zero, List.set_cons_succ]))) | (refine Held.take (i := 4) (v := ?_) rfl (by kernel_rfl) (fun _ _ _ h => h) rfl ?_ ?_; rotate_left; (intro w hS; have hE := hS; have hi := Hi1.out.after hE; have i0 := hi.cell 0; have i1 := hi.cell 1; have i2 := hi.cell 2; simp at i0 i1 i2; go_simp; with_reducible rfl); (try (try simp only [Act.put, List.setIfInBounds_toArray, List.set_cons_zero, List.set_cons_succ]))))
    refine Held.three (i := 2) (j := 6) (k := 7) (by kernel_rfl) ?_ ?_ ?_
    · refine HeldOp.call (i := 2) (f := ?_) (args := ?_) rfl rfl ?_ ?_
      rotate_left 2
      · (intro w hS; go_simp; (first | with_reducible rfl | (refine ⟨?_, ?_⟩ <;> with_reducible rfl)))
      intro wcx hSc
      (with_reducible refine (KV.out _).mono ?_)
      rintro e vc ⟨rfl, hb⟩
      refine ⟨_, rfl, (Ext wk), bel_on hSc hb, fun w h => h, ?_⟩
      clear hSc hb
      (try simp only [Act.put, List.setIfInBounds_toArray, List.set_cons_zero, List.set_cons_succ])
      refine Held.three (i := 5) (j := 6) (k := 7) (by kernel_rfl) ?_ ?_ ?_
      · refine HeldOp.call (i := 5) (f := ?_) (args := ?_) rfl rfl ?_ ?_
        rotate_left 2
        · (intro w hS; go_simp; (first | with_reducible rfl | (refine ⟨?_, ?_⟩ <;> with_reducible rfl)))
        intro wcx hSc
        (with_reducible refine (KU.out _).mono ?_)
        rintro e vc ⟨rfl, hb⟩
        refine ⟨_, rfl, (Ext wk), bel_on hSc hb, fun w h => h, ?_⟩
        clear hSc hb
        (try simp only [Act.put, List.setIfInBounds_toArray, List.set_cons_zero, List.set_cons_succ])
        refine Held.two (i := 6) (j := 7) (by kernel_rfl) ?_ ?_
        · refine HeldOp.step (i := 6) rfl rfl ?_
          intro wcx hSc
          have hg6 : wk.heap.size ≤ wcx.heap.size := Below.size (hSc)
          refine ⟨.pointer (some ⟨wcx.heap.size, 0, none⟩), wcx.alloc (.cells #[.int .u64 0, .int .u64 0, .int .u64 0, .int .u64 0] 25), .inl (by go_simp), (fun w' => Ext wk w' ∧ Four w' wcx.heap.size), ⟨Below.alloc (hSc) (Below.size (hSc)) _, ⟨_, _, _, _, IsBlk.new _ _ _⟩⟩, fun w h => h.1, ?_⟩
          generalize wcx.heap.size = g6 at *
          clear hSc
          (try simp only [Act.put, List.setIfInBounds_toArray, List.set_cons_zero, List.set_cons_succ])
          refine Held.one (i := 7) (by kernel_rfl) ?_
          · refine HeldOp.step (i := 7) rfl rfl ?_
            intro wcx hSc
            have hg7 : wk.heap.size ≤ wcx.heap.size := Below.size (hSc.1)
            have hn7 : g6 < wcx.heap.size := Four.lt (hSc.2)
            refine ⟨.pointer (some ⟨wcx.heap.size, 0, none⟩), wcx.alloc (.cells #[.int .u64 0, .int .u64 0, .int .u64 0, .int .u64 0] 25), .inl (by go_simp), (fun w' => Ext wk w' ∧ Four w' g6 ∧ Four w' wcx.heap.size), ⟨Below.alloc (hSc.1) (Below.size (hSc.1)) _, Four.alloc (hSc.2) _, ⟨_, _, _, _, IsBlk.new _ _ _⟩⟩, fun w h => ⟨h.1, h.2.1⟩, ?_⟩
            generalize wcx.heap.size = g7 at *
            clear hSc
            (try simp only [Act.put, List.setIfInBounds_toArray, List.set_cons_zero, List.set_cons_succ])
            refine Held.one (i := 8) (by kernel_rfl) ?_
            · refine HeldOp.step (i := 8) rfl rfl ?_
              intro wcx hSc
              obtain ⟨c0, c1, c2, c3, hblk⟩ := hSc.2.1
              refine ⟨undef, ((((wcx.setCell ⟨g6, 0, none⟩ (.int .u64 (wd V 0 : Nat))).setCell ⟨g6, 1, none⟩ (.int .u64 (wd V 1 : Nat))).setCell ⟨g6, 2, none⟩ (.int .u64 (wd V 2 : Nat))).setCell ⟨g6, 3, none⟩ (.int .u64 (wd V 3 : Nat))), .inr ⟨?_, rfl⟩, (fun w' => Ext wk w' ∧ IsBlk w' g6 25 #[.int .u64 (wd V 0 : Nat), .int .u64 (wd V 1 : Nat), .int .u64 (wd V 2 : Nat), .int .u64 (wd V 3 : Nat)] ∧ Four w' g7), ⟨bel4 hSc.1 hg6, stored4 hblk, Four.far4 (hSc.2.2) (by omega)⟩, fun w h => ⟨h.1, ⟨_, _, _, _, h.2.1⟩, h.2.2⟩, ?_⟩
              · have b0 := hblk.cell 0
                have b1 := hblk.cell 1
                have b2 := hblk.cell 2
                have b3 := hblk.cell 3
                simp at b0 b1 b2 b3
                have frb := hblk.free
                have ltb := hblk.lt
                go_simp
              clear hSc hblk
              (try simp only [Act.put])
              refine Held.one (i := 9) (by kernel_rfl) ?_
              · refine HeldOp.step (i := 9) rfl rfl ?_
                intro wcx hSc
                obtain ⟨c0, c1, c2, c3, hblk⟩ := hSc.2.2
                refine ⟨undef, ((((wcx.setCell ⟨g7, 0, none⟩ (.int .u64 (wd U 0 : Nat))).setCell ⟨g7, 1, none⟩ (.int .u64 (wd U 1 : Nat))).setCell ⟨g7, 2, none⟩ (.int .u64 (wd U 2 : Nat))).setCell ⟨g7, 3, none⟩ (.int .u64 (wd U 3 : Nat))), .inr ⟨?_, rfl⟩, (fun w' => Ext wk w' ∧ IsBlk w' g6 25 #[.int .u64 (wd V 0 : Nat), .int .u64 (wd V 1 : Nat), .int .u64 (wd V 2 : Nat), .int .u64 (wd V 3 : Nat)] ∧ IsBlk w' g7 25 #[.int .u64 (wd U 0 : Nat), .int .u64 (wd U 1 : Nat), .int .u64 (wd U 2 : Nat), .int .u64 (wd U 3 : Nat)]), ⟨bel4 hSc.1 hg7, far4 (hSc.2.1) (by omega), stored4 hblk⟩, fun w h => ⟨h.1, h.2.1, ⟨_, _, _, _, h.2.2⟩⟩, ?_⟩
                · have b0 := hblk.cell 0
                  have b1 := hblk.cell 1
                  have b2 := hblk.cell 2
                  have b3 := hblk.cell 3
                  simp at b0 b1 b2 b3
                  have frb := hblk.free
                  have ltb := hblk.lt
                  go_simp
                clear hSc hblk
                (try simp only [Act.put])
                refine Held.done (by kernel_rfl) ?_
                intro wz hz
                have hne : g6 ≠ g7 := by omega
                go_wp2_with fail
                go_meet
                exact ⟨g6, g7, rfl, rfl, hg6, hz.1, hz.2.1, hz.2.2⟩
        · refine HeldOp.step (i := 7) rfl rfl ?_
          intro wcx hSc
          have hg7 : wk.heap.size ≤ wcx.heap.size := Below.size (hSc)
          refine ⟨.pointer (some ⟨wcx.heap.size, 0, none⟩), wcx.alloc (.cells #[.int .u64 0, .int .u64 0, .int .u64 0, .int .u64 0] 25), .inl (by go_simp), (fun w' => Ext wk w' ∧ Four w' wcx.heap.size), ⟨Below.alloc (hSc) (Below.size (hSc)) _, ⟨_, _, _, _, IsBlk.new _ _ _⟩⟩, fun w h => h.1, ?_⟩
          generalize wcx.heap.size = g7 at *
          clear hSc
          (try simp only [Act.put, List.setIfInBounds_toArray, List.set_cons_zero, List.set_cons_succ])
          refine Held.one (i := 6) (by kernel_rfl) ?_
          · refine HeldOp.step (i := 6) rfl rfl ?_
            intro wcx hSc
            have hg6 : wk.heap.size ≤ wcx.heap.size := Below.size (hSc.1)
            have hn6 : g7 < wcx.heap.size := Four.lt (hSc.2)
            refine ⟨.pointer (some ⟨wcx.heap.size, 0, none⟩), wcx.alloc (.cells #[.int .u64 0, .int .u64 0, .int .u64 0, .int .u64 0] 25), .inl (by go_simp), (fun w' => Ext wk w' ∧ Four w' wcx.heap.size ∧ Four w' g7), ⟨Below.alloc (hSc.1) (Below.size (hSc.1)) _, ⟨_, _, _, _, IsBlk.new _ _ _⟩, Four.alloc (hSc.2) _⟩, fun w h => ⟨h.1, h.2.2⟩, ?_⟩
            generalize wcx.heap.size = g6 at *
            clear hSc
            (try simp only [Act.put, List.setIfInBounds_toArray, List.set_cons_zero, List.set_cons_succ])
            refine Held.one (i := 8) (by kernel_rfl) ?_
            · refine HeldOp.step (i := 8) rfl rfl ?_
              intro wcx hSc
              obtain ⟨c0, c1, c2, c3, hblk⟩ := hSc.2.1
              refine ⟨undef, ((((wcx.setCell ⟨g6, 0, none⟩ (.int .u64 (wd V 0 : Nat))).setCell ⟨g6, 1, none⟩ (.int .u64 (wd V 1 : Nat))).setCell ⟨g6, 2, none⟩ (.int .u64 (wd V 2 : Nat))).setCell ⟨g6, 3, none⟩ (.int .u64 (wd V 3 : Nat))), .inr ⟨?_, rfl⟩, (fun w' => Ext wk w' ∧ IsBlk w' g6 25 #[.int .u64 (wd V 0 : Nat), .int .u64 (wd V 1 : Nat), .int .u64 (wd V 2 : Nat), .int .u64 (wd V 3 : Nat)] ∧ Four w' g7), ⟨bel4 hSc.1 hg6, stored4 hblk, Four.far4 (hSc.2.2) (by omega)⟩, fun w h => ⟨h.1, ⟨_, _, _, _, h.2.1⟩, h.2.2⟩, ?_⟩
              · have b0 := hblk.cell 0
                have b1 := hblk.cell 1
                have b2 := hblk.cell 2
                have b3 := hblk.cell 3
                simp at b0 b1 b2 b3
                have frb := hblk.free
                have ltb := hblk.lt
                go_simp
              clear hSc hblk
              (try simp only [Act.put])
              refine Held.one (i := 9) (by kernel_rfl) ?_
              · refine HeldOp.step (i := 9) rfl rfl ?_
                intro wcx hSc
                obtain ⟨c0, c1, c2, c3, hblk⟩ := hSc.2.2
                refine ⟨undef, ((((wcx.setCell ⟨g7, 0, none⟩ (.int .u64 (wd U 0 : Nat))).setCell ⟨g7, 1, none⟩ (.int .u64 (wd U 1 : Nat))).setCell ⟨g7, 2, none⟩ (.int .u64 (wd U 2 : Nat))).setCell ⟨g7, 3, none⟩ (.int .u64 (wd U 3 : Nat))), .inr ⟨?_, rfl⟩, (fun w' => Ext wk w' ∧ IsBlk w' g6 25 #[.int .u64 (wd V 0 : Nat), .int .u64 (wd V 1 : Nat), .int .u64 (wd V 2 : Nat), .int .u64 (wd V 3 : Nat)] ∧ IsBlk w' g7 25 #[.int .u64 (wd U 0 : Nat), .int .u64 (wd U 1 : Nat), .int .u64 (wd U 2 : Nat), .int .u64 (wd U 3 : Nat)]), ⟨bel4 hSc.1 hg7, far4 (hSc.2.1) (by omega), stored4 hblk⟩, fun w h => ⟨h.1, h.2.1, ⟨_, _, _, _, h.2.2⟩⟩, ?_⟩
                · have b0 := hblk.cell 0
                  have b1 := hblk.cell 1
                  have b2 := hblk.cell 2
                  have b3 := hblk.cell 3
                  simp at b0 b1 b2 b3
                  have frb := hblk.free
                  have ltb := hblk.lt
                  go_simp
                clear hSc hblk
                (try simp only [Act.put])
                refine Held.done (by kernel_rfl) ?_
                intro wz hz
                have hne : g6 ≠ g7 := by omega
                go_wp2_with fail
                go_meet
                exact ⟨g6, g7, rfl, rfl, hg6, hz.1, hz.2.1, hz.2.2⟩
      · refine HeldOp.step (i := 6) rfl rfl ?_
        intro wcx hSc
        have hg6 : wk.heap.size ≤ wcx.heap.size := Below.size (hSc)
        refine ⟨.pointer (some ⟨wcx.heap.size, 0, none⟩), wcx.alloc (.cells #[.int .u64 0, .int .u64 0, .int .u64 0, .int .u64 0] 25), .inl (by go_simp), (fun w' => Ext wk w' ∧ Four w' wcx.heap.size), ⟨Below.alloc (hSc) (Below.size (hSc)) _, ⟨_, _, _, _, IsBlk.new _ _ _⟩⟩, fun w h => h.1, ?_⟩
        generalize wcx.heap.size = g6 at *
        clear hSc
        (try simp only [Act.put, List.setIfInBounds_toArray, List.set_cons_zero, List.set_cons_succ])
        refine Held.two (i := 5) (j := 7) (by kernel_rfl) ?_ ?_
        · refine HeldOp.call (i := 5) (f := ?_) (args := ?_) rfl rfl ?_ ?_
          rotate_left 2
          · (intro w hS; go_simp; (first | with_reducible rfl | (refine ⟨?_, ?_⟩ <;> with_reducible rfl)))
          intro wcx hSc
          (with_reducible refine (KU.out _).mono ?_)
          rintro e vc ⟨rfl, hb⟩
          refine ⟨_, rfl, (fun w' => Ext wk w' ∧ Four w' g6), ⟨bel_on hSc.1 hb, hSc.2.on hb⟩, fun w h => h, ?_⟩
          clear hSc hb
          (try simp only [Act.put, List.setIfInBounds_toArray, List.set_cons_zero, List.set_cons_succ])
          refine Held.one (i := 7) (by kernel_rfl) ?_
          · refine HeldOp.step (i := 7) rfl rfl ?_
            intro wcx hSc
            have hg7 : wk.heap.size ≤ wcx.heap.size := Below.size (hSc.1)
            have hn7 : g6 < wcx.heap.size := Four.lt (hSc.2)
            refine ⟨.pointer (some ⟨wcx.heap.size, 0, none⟩), wcx.alloc (.cells #[.int .u64 0, .int .u64 0, .int .u64 0, .int .u64 0] 25), .inl (by go_simp), (fun w' => Ext wk w' ∧ Four w' g6 ∧ Four w' wcx.heap.size), ⟨Below.alloc (hSc.1) (Below.size (hSc.1)) _, Four.alloc (hSc.2) _, ⟨_, _, _, _, IsBlk.new _ _ _⟩⟩, fun w h => ⟨h.1, h.2.1⟩, ?_⟩
            generalize wcx.heap.size = g7 at *
            clear hSc
            (try simp only [Act.put, List.setIfInBounds_toArray, List.set_cons_zero, List.set_cons_succ])
            refine Held.one (i := 8) (by kernel_rfl) ?_
            · refine HeldOp.step (i := 8) rfl rfl ?_
              intro wcx hSc
              obtain ⟨c0, c1, c2, c3, hblk⟩ := hSc.2.1
              refine ⟨undef, ((((wcx.setCell ⟨g6, 0, none⟩ (.int .u64 (wd V 0 : Nat))).setCell ⟨g6, 1, none⟩ (.int .u64 (wd V 1 : Nat))).setCell ⟨g6, 2, none⟩ (.int .u64 (wd V 2 : Nat))).setCell ⟨g6, 3, none⟩ (.int .u64 (wd V 3 : Nat))), .inr ⟨?_, rfl⟩, (fun w' => Ext wk w' ∧ IsBlk w' g6 25 #[.int .u64 (wd V 0 : Nat), .int .u64 (wd V 1 : Nat), .int .u64 (wd V 2 : Nat), .int .u64 (wd V 3 : Nat)] ∧ Four w' g7), ⟨bel4 hSc.1 hg6, stored4 hblk, Four.far4 (hSc.2.2) (by omega)⟩, fun w h => ⟨h.1, ⟨_, _, _, _, h.2.1⟩, h.2.2⟩, ?_⟩
              · have b0 := hblk.cell 0
                have b1 := hblk.cell 1
                have b2 := hblk.cell 2
                have b3 := hblk.cell 3
                simp at b0 b1 b2 b3
                have frb := hblk.free
                have ltb := hblk.lt
                go_simp
              clear hSc hblk
              (try simp only [Act.put])
              refine Held.one (i := 9) (by kernel_rfl) ?_
              · refine HeldOp.step (i := 9) rfl rfl ?_
                intro wcx hSc
                obtain ⟨c0, c1, c2, c3, hblk⟩ := hSc.2.2
                refine ⟨undef, ((((wcx.setCell ⟨g7, 0, none⟩ (.int .u64 (wd U 0 : Nat))).setCell ⟨g7, 1, none⟩ (.int .u64 (wd U 1 : Nat))).setCell ⟨g7, 2, none⟩ (.int .u64 (wd U 2 : Nat))).setCell ⟨g7, 3, none⟩ (.int .u64 (wd U 3 : Nat))), .inr ⟨?_, rfl⟩, (fun w' => Ext wk w' ∧ IsBlk w' g6 25 #[.int .u64 (wd V 0 : Nat), .int .u64 (wd V 1 : Nat), .int .u64 (wd V 2 : Nat), .int .u64 (wd V 3 : Nat)] ∧ IsBlk w' g7 25 #[.int .u64 (wd U 0 : Nat), .int .u64 (wd U 1 : Nat), .int .u64 (wd U 2 : Nat), .int .u64 (wd U 3 : Nat)]), ⟨bel4 hSc.1 hg7, far4 (hSc.2.1) (by omega), stored4 hblk⟩, fun w h => ⟨h.1, h.2.1, ⟨_, _, _, _, h.2.2⟩⟩, ?_⟩
                · have b0 := hblk.cell 0
                  have b1 := hblk.cell 1
                  have b2 := hblk.cell 2
                  have b3 := hblk.cell 3
                  simp at b0 b1 b2 b3
                  have frb := hblk.free
                  have ltb := hblk.lt
                  go_simp
                clear hSc hblk
                (try simp only [Act.put])
                refine Held.done (by kernel_rfl) ?_
                intro wz hz
                have hne : g6 ≠ g7 := by omega
                go_wp2_with fail
                go_meet
                exact ⟨g6, g7, rfl, rfl, hg6, hz.1, hz.2.1, hz.2.2⟩
        · refine HeldOp.step (i := 7) rfl rfl ?_
          intro wcx hSc
          have hg7 : wk.heap.size ≤ wcx.heap.size := Below.size (hSc.1)
          have hn7 : g6 < wcx.heap.size := Four.lt (hSc.2)
          refine ⟨.pointer (some ⟨wcx.heap.size, 0, none⟩), wcx.alloc (.cells #[.int .u64 0, .int .u64 0, .int .u64 0, .int .u64 0] 25), .inl (by go_simp), (fun w' => Ext wk w' ∧ Four w' g6 ∧ Four w' wcx.heap.size), ⟨Below.alloc (hSc.1) (Below.size (hSc.1)) _, Four.alloc (hSc.2) _, ⟨_, _, _, _, IsBlk.new _ _ _⟩⟩, fun w h => ⟨h.1, h.2.1⟩, ?_⟩
          generalize wcx.heap.size = g7 at *
          clear hSc
          (try simp only [Act.put, List.setIfInBounds_toArray, List.set_cons_zero, List.set_cons_succ])
          refine Held.one (i := 5) (by kernel_rfl) ?_
          · refine HeldOp.call (i := 5) (f := ?_) (args := ?_) rfl rfl ?_ ?_
            rotate_left 2
            · (intro w hS; go_simp; (first | with_reducible rfl | (refine ⟨?_, ?_⟩ <;> with_reducible rfl)))
            intro wcx hSc
            (with_reducible refine (KU.out _).mono ?_)
            rintro e vc ⟨rfl, hb⟩
            refine ⟨_, rfl, (fun w' => Ext wk w' ∧ Four w' g6 ∧ Four w' g7), ⟨bel_on hSc.1 hb, hSc.2.1.on hb, hSc.2.2.on hb⟩, fun w h => h, ?_⟩
            clear hSc hb
            (try simp only [Act.put, List.setIfInBounds_toArray, List.set_cons_zero, List.set_cons_succ])
            refine Held.one (i := 8) (by kernel_rfl) ?_
            · refine HeldOp.step (i := 8) rfl rfl ?_
              intro wcx hSc
              obtain ⟨c0, c1, c2, c3, hblk⟩ := hSc.2.1
              refine ⟨undef, ((((wcx.setCell ⟨g6, 0, none⟩ (.int .u64 (wd V 0 : Nat))).setCell ⟨g6, 1, none⟩ (.int .u64 (wd V 1 : Nat))).setCell ⟨g6, 2, none⟩ (.int .u64 (wd V 2 : Nat))).setCell ⟨g6, 3, none⟩ (.int .u64 (wd V 3 : Nat))), .inr ⟨?_, rfl⟩, (fun w' => Ext wk w' ∧ IsBlk w' g6 25 #[.int .u64 (wd V 0 : Nat), .int .u64 (wd V 1 : Nat), .int .u64 (wd V 2 : Nat), .int .u64 (wd V 3 : Nat)] ∧ Four w' g7), ⟨bel4 hSc.1 hg6, stored4 hblk, Four.far4 (hSc.2.2) (by omega)⟩, fun w h => ⟨h.1, ⟨_, _, _, _, h.2.1⟩, h.2.2⟩, ?_⟩
              · have b0 := hblk.cell 0
                have b1 := hblk.cell 1
                have b2 := hblk.cell 2
                have b3 := hblk.cell 3
                simp at b0 b1 b2 b3
                have frb := hblk.free
                have ltb := hblk.lt
                go_simp
              clear hSc hblk
              (try simp only [Act.put])
              refine Held.one (i := 9) (by kernel_rfl) ?_
              · refine HeldOp.step (i := 9) rfl rfl ?_
                intro wcx hSc
                obtain ⟨c0, c1, c2, c3, hblk⟩ := hSc.2.2
                refine ⟨undef, ((((wcx.setCell ⟨g7, 0, none⟩ (.int .u64 (wd U 0 : Nat))).setCell ⟨g7, 1, none⟩ (.int .u64 (wd U 1 : Nat))).setCell ⟨g7, 2, none⟩ (.int .u64 (wd U 2 : Nat))).setCell ⟨g7, 3, none⟩ (.int .u64 (wd U 3 : Nat))), .inr ⟨?_, rfl⟩, (fun w' => Ext wk w' ∧ IsBlk w' g6 25 #[.int .u64 (wd V 0 : Nat), .int .u64 (wd V 1 : Nat), .int .u64 (wd V 2 : Nat), .int .u64 (wd V 3 : Nat)] ∧ IsBlk w' g7 25 #[.int .u64 (wd U 0 : Nat), .int .u64 (wd U 1 : Nat), .int .u64 (wd U 2 : Nat), .int .u64 (wd U 3 : Nat)]), ⟨bel4 hSc.1 hg7, far4 (hSc.2.1) (by omega), stored4 hblk⟩, fun w h => ⟨h.1, h.2.1, ⟨_, _, _, _, h.2.2⟩⟩, ?_⟩
                · have b0 := hblk.cell 0
                  have b1 := hblk.cell 1
                  have b2 := hblk.cell 2
                  have b3 := hblk.cell 3
                  simp at b0 b1 b2 b3
                  have frb := hblk.free
                  have ltb := hblk.lt
                  go_simp
                clear hSc hblk
                (try simp only [Act.put])
                refine Held.done (by kernel_rfl) ?_
                intro wz hz
                have hne : g6 ≠ g7 := by omega
                go_wp2_with fail
                go_meet
                exact ⟨g6, g7, rfl, rfl, hg6, hz.1, hz.2.1, hz.2.2⟩
      · refine HeldOp.step (i := 7) rfl rfl ?_
        intro wcx hSc
        have hg7 : wk.heap.size ≤ wcx.heap.size := Below.size (hSc)
        refine ⟨.pointer (some ⟨wcx.heap.size, 0, none⟩), wcx.alloc (.cells #[.int .u64 0, .int .u64 0, .int .u64 0, .int .u64 0] 25), .inl (by go_simp), (fun w' => Ext wk w' ∧ Four w' wcx.heap.size), ⟨Below.alloc (hSc) (Below.size (hSc)) _, ⟨_, _, _, _, IsBlk.new _ _ _⟩⟩, fun w h => h.1, ?_⟩
        generalize wcx.heap.size = g7 at *
        clear hSc
        (try simp only [Act.put, List.setIfInBounds_toArray, List.set_cons_zero, List.set_cons_succ])
        refine Held.two (i := 5) (j := 6) (by kernel_rfl) ?_ ?_
        · refine HeldOp.call (i := 5) (f := ?_) (args := ?_) rfl rfl ?_ ?_
          rotate_left 2
          · (intro w hS; go_simp; (first | with_reducible rfl | (refine ⟨?_, ?_⟩ <;> with_reducible rfl)))
          intro wcx hSc
          (with_reducible refine (KU.out _).mono ?_)
          rintro e vc ⟨rfl, hb⟩
          refine ⟨_, rfl, (fun w' => Ext wk w' ∧ Four w' g7), ⟨bel_on hSc.1 hb, hSc.2.on hb⟩, fun w h => h, ?_⟩
          clear hSc hb
          (try simp only [Act.put, List.setIfInBounds_toArray, List.set_cons_zero, List.set_cons_succ])
          refine Held.one (i := 6) (by kernel_rfl) ?_
          · refine HeldOp.step (i := 6) rfl rfl ?_
            intro wcx hSc
            have hg6 : wk.heap.size ≤ wcx.heap.size := Below.size (hSc.1)
            have hn6 : g7 < wcx.heap.size := Four.lt (hSc.2)
            refine ⟨.pointer (some ⟨wcx.heap.size, 0, none⟩), wcx.alloc (.cells #[.int .u64 0, .int .u64 0, .int .u64 0, .int .u64 0] 25), .inl (by go_simp), (fun w' => Ext wk w' ∧ Four w' wcx.heap.size ∧ Four w' g7), ⟨Below.alloc (hSc.1) (Below.size (hSc.1)) _, ⟨_, _, _, _, IsBlk.new _ _ _⟩, Four.alloc (hSc.2) _⟩, fun w h => ⟨h.1, h.2.2⟩, ?_⟩
            generalize wcx.heap.size = g6 at *
            clear hSc
            (try simp only [Act.put, List.setIfInBounds_toArray, List.set_cons_zero, List.set_cons_succ])
            refine Held.one (i := 8) (by kernel_rfl) ?_
            · refine HeldOp.step (i := 8) rfl rfl ?_
              intro wcx hSc
              obtain ⟨c0, c1, c2, c3, hblk⟩ := hSc.2.1
              refine ⟨undef, ((((wcx.setCell ⟨g6, 0, none⟩ (.int .u64 (wd V 0 : Nat))).setCell ⟨g6, 1, none⟩ (.int .u64 (wd V 1 : Nat))).setCell ⟨g6, 2, none⟩ (.int .u64 (wd V 2 : Nat))).setCell ⟨g6, 3, none⟩ (.int .u64 (wd V 3 : Nat))), .inr ⟨?_, rfl⟩, (fun w' => Ext wk w' ∧ IsBlk w' g6 25 #[.int .u64 (wd V 0 : Nat), .int .u64 (wd V 1 : Nat), .int .u64 (wd V 2 : Nat), .int .u64 (wd V 3 : Nat)] ∧ Four w' g7), ⟨bel4 hSc.1 hg6, stored4 hblk, Four.far4 (hSc.2.2) (by omega)⟩, fun w h => ⟨h.1, ⟨_, _, _, _, h.2.1⟩, h.2.2⟩, ?_⟩
              · have b0 := hblk.cell 0
                have b1 := hblk.cell 1
                have b2 := hblk.cell 2
                have b3 := hblk.cell 3
                simp at b0 b1 b2 b3
                have frb := hblk.free
                have ltb := hblk.lt
                go_simp
              clear hSc hblk
              (try simp only [Act.put])
              refine Held.one (i := 9) (by kernel_rfl) ?_
              · refine HeldOp.step (i := 9) rfl rfl ?_
                intro wcx hSc
                obtain ⟨c0, c1, c2, c3, hblk⟩ := hSc.2.2
                refine ⟨undef, ((((wcx.setCell ⟨g7, 0, none⟩ (.int .u64 (wd U 0 : Nat))).setCell ⟨g7, 1, none⟩ (.int .u64 (wd U 1 : Nat))).setCell ⟨g7, 2, none⟩ (.int .u64 (wd U 2 : Nat))).setCell ⟨g7, 3, none⟩ (.int .u64 (wd U 3 : Nat))), .inr ⟨?_, rfl⟩, (fun w' => Ext wk w' ∧ IsBlk w' g6 25 #[.int .u64 (wd V 0 : Nat), .int .u64 (wd V 1 : Nat), .int .u64 (wd V 2 : Nat), .int .u64 (wd V 3 : Nat)] ∧ IsBlk w' g7 25 #[.int .u64 (wd U 0 : Nat), .int .u64 (wd U 1 : Nat), .int .u64 (wd U 2 : Nat), .int .u64 (wd U 3 : Nat)]), ⟨bel4 hSc.1 hg7, far4 (hSc.2.1) (by omega), stored4 hblk⟩, fun w h => ⟨h.1, h.2.1, ⟨_, _, _, _, h.2.2⟩⟩, ?_⟩
                · have b0 := hblk.cell 0
                  have b1 := hblk.cell 1
                  have b2 := hblk.cell 2
                  have b3 := hblk.cell 3
                  simp at b0 b1 b2 b3
                  have frb := hblk.free
                  have ltb := hblk.lt
                  go_simp
                clear hSc hblk
                (try simp only [Act.put])
                refine Held.done (by kernel_rfl) ?_
                intro wz hz
                have hne : g6 ≠ g7 := by omega
                go_wp2_with fail
                go_meet
                exact ⟨g6, g7, rfl, rfl, hg6, hz.1, hz.2.1, hz.2.2⟩
        · refine HeldOp.step (i := 6) rfl rfl ?_
          intro wcx hSc
          have hg6 : wk.heap.size ≤ wcx.heap.size := Below.size (hSc.1)
          have hn6 : g7 < wcx.heap.size := Four.lt (hSc.2)
          refine ⟨.pointer (some ⟨wcx.heap.size, 0, none⟩), wcx.alloc (.cells #[.int .u64 0, .int .u64 0, .int .u64 0, .int .u64 0] 25), .inl (by go_simp), (fun w' => Ext wk w' ∧ Four w' wcx.heap.size ∧ Four w' g7), ⟨Below.alloc (hSc.1) (Below.size (hSc.1)) _, ⟨_, _, _, _, IsBlk.new _ _ _⟩, Four.alloc (hSc.2) _⟩, fun w h => ⟨h.1, h.2.2⟩, ?_⟩
          generalize wcx.heap.size = g6 at *
          clear hSc
          (try simp only [Act.put, List.setIfInBounds_toArray, List.set_cons_zero, List.set_cons_succ])
          refine Held.one (i := 5) (by kernel_rfl) ?_
          · refine HeldOp.call (i := 5) (f := ?_) (args := ?_) rfl rfl ?_ ?_
            rotate_left 2
            · (intro w hS; go_simp; (first | with_reducible rfl | (refine ⟨?_, ?_⟩ <;> with_reducible rfl)))
            intro wcx hSc
            (with_reducible refine (KU.out _).mono ?_)
            rintro e vc ⟨rfl, hb⟩
            refine ⟨_, rfl, (fun w' => Ext wk w' ∧ Four w' g6 ∧ Four w' g7), ⟨bel_on hSc.1 hb, hSc.2.1.on hb, hSc.2.2.on hb⟩, fun w h => h, ?_⟩
            clear hSc hb
            (try simp only [Act.put, List.setIfInBounds_toArray, List.set_cons_zero, List.set_cons_succ])
            refine Held.one (i := 8) (by kernel_rfl) ?_
            · refine HeldOp.step (i := 8) rfl rfl ?_
              intro wcx hSc
              obtain ⟨c0, c1, c2, c3, hblk⟩ := hSc.2.1
              refine ⟨undef, ((((wcx.setCell ⟨g6, 0, none⟩ (.int .u64 (wd V 0 : Nat))).setCell ⟨g6, 1, none⟩ (.int .u64 (wd V 1 : Nat))).setCell ⟨g6, 2, none⟩ (.int .u64 (wd V 2 : Nat))).setCell ⟨g6, 3, none⟩ (.int .u64 (wd V 3 : Nat))), .inr ⟨?_, rfl⟩, (fun w' => Ext wk w' ∧ IsBlk w' g6 25 #[.int .u64 (wd V 0 : Nat), .int .u64 (wd V 1 : Nat), .int .u64 (wd V 2 : Nat), .int .u64 (wd V 3 : Nat)] ∧ Four w' g7), ⟨bel4 hSc.1 hg6, stored4 hblk, Four.far4 (hSc.2.2) (by omega)⟩, fun w h => ⟨h.1, ⟨_, _, _, _, h.2.1⟩, h.2.2⟩, ?_⟩
              · have b0 := hblk.cell 0
                have b1 := hblk.cell 1
                have b2 := hblk.cell 2
                have b3 := hblk.cell 3
                simp at b0 b1 b2 b3
                have frb := hblk.free
                have ltb := hblk.lt
                go_simp
              clear hSc hblk
              (try simp only [Act.put])
              refine Held.one (i := 9) (by kernel_rfl) ?_
              · refine HeldOp.step (i := 9) rfl rfl ?_
                intro wcx hSc
                obtain ⟨c0, c1, c2, c3, hblk⟩ := hSc.2.2
                refine ⟨undef, ((((wcx.setCell ⟨g7, 0, none⟩ (.int .u64 (wd U 0 : Nat))).setCell ⟨g7, 1, none⟩ (.int .u64 (wd U 1 : Nat))).setCell ⟨g7, 2, none⟩ (.int .u64 (wd U 2 : Nat))).setCell ⟨g7, 3, none⟩ (.int .u64 (wd U 3 : Nat))), .inr ⟨?_, rfl⟩, (fun w' => Ext wk w' ∧ IsBlk w' g6 25 #[.int .u64 (wd V 0 : Nat), .int .u64 (wd V 1 : Nat), .int .u64 (wd V 2 : Nat), .int .u64 (wd V 3 : Nat)] ∧ IsBlk w' g7 25 #[.int .u64 (wd U 0 : Nat), .int .u64 (wd U 1 : Nat), .int .u64 (wd U 2 : Nat), .int .u64 (wd U 3 : Nat)]), ⟨bel4 hSc.1 hg7, far4 (hSc.2.1) (by omega), stored4 hblk⟩, fun w h => ⟨h.1, h.2.1, ⟨_, _, _, _, h.2.2⟩⟩, ?_⟩
                · have b0 := hblk.cell 0
                  have b1 := hblk.cell 1
                  have b2 := hblk.cell 2
                  have b3 := hblk.cell 3
                  simp at b0 b1 b2 b3
                  have frb := hblk.free
                  have ltb := hblk.lt
                  go_simp
                clear hSc hblk
                (try simp only [Act.put])
                refine Held.done (by kernel_rfl) ?_
                intro wz hz
                have hne : g6 ≠ g7 := by omega
                go_wp2_with fail
                go_meet
                exact ⟨g6, g7, rfl, rfl, hg6, hz.1, hz.2.1, hz.2.2⟩
    · refine HeldOp.step (i := 6) rfl rfl ?_
      intro wcx hSc
      have hg6 : wk.heap.size ≤ wcx.heap.size := Below.size (hSc)
      refine ⟨.pointer (some ⟨wcx.heap.size, 0, none⟩), wcx.alloc (.cells #[.int .u64 0, .int .u64 0, .int .u64 0, .int .u64 0] 25), .inl (by go_simp), (fun w' => Ext wk w' ∧ Four w' wcx.heap.size), ⟨Below.alloc (hSc) (Below.size (hSc)) _, ⟨_, _, _, _, IsBlk.new _ _ _⟩⟩, fun w h => h.1, ?_⟩
      generalize wcx.heap.size = g6 at *
      clear hSc
      (try simp only [Act.put, List.setIfInBounds_toArray, List.set_cons_zero, List.set_cons_succ])
      refine Held.two (i := 2) (j := 7) (by kernel_rfl) ?_ ?_
      · refine HeldOp.call (i := 2) (f := ?_) (args := ?_) rfl rfl ?_ ?_
        rotate_left 2
        · (intro w hS; go_simp; (first | with_reducible rfl | (refine ⟨?_, ?_⟩ <;> with_reducible rfl)))
        intro wcx hSc
        (with_reducible refine (KV.out _).mono ?_)
        rintro e vc ⟨rfl, hb⟩
        refine ⟨_, rfl, (fun w' => Ext wk w' ∧ Four w' g6), ⟨bel_on hSc.1 hb, hSc.2.on hb⟩, fun w h => h, ?_⟩
        clear hSc hb
        (try simp only [Act.put, List.setIfInBounds_toArray, List.set_cons_zero, List.set_cons_succ])
        refine Held.two (i := 5) (j := 7) (by kernel_rfl) ?_ ?_
        · refine HeldOp.call (i := 5) (f := ?_) (args := ?_) rfl rfl ?_ ?_
          rotate_left 2
          · (intro w hS; go_simp; (first | with_reducible rfl | (refine ⟨?_, ?_⟩ <;> with_reducible rfl)))
          intro wcx hSc
          (with_reducible refine (KU.out _).mono ?_)
          rintro e vc ⟨rfl, hb⟩
          refine ⟨_, rfl, (fun w' => Ext wk w' ∧ Four w' g6), ⟨bel_on hSc.1 hb, hSc.2.on hb⟩, fun w h => h, ?_⟩
          clear hSc hb
          (try simp only [Act.put, List.setIfInBounds_toArray, List.set_cons_zero, List.set_cons_succ])
          refine Held.one (i := 7) (by kernel_rfl) ?_
          · refine HeldOp.step (i := 7) rfl rfl ?_
            intro wcx hSc
            have hg7 : wk.heap.size ≤ wcx.heap.size := Below.size (hSc.1)
            have hn7 : g6 < wcx.heap.size := Four.lt (hSc.2)
            refine ⟨.pointer (some ⟨wcx.heap.size, 0, none⟩), wcx.alloc (.cells #[.int .u64 0, .int .u64 0, .int .u64 0, .int .u64 0] 25), .inl (by go_simp), (fun w' => Ext wk w' ∧ Four w' g6 ∧ Four w' wcx.heap.size), ⟨Below.alloc (hSc.1) (Below.size (hSc.1)) _, Four.alloc (hSc.2) _, ⟨_, _, _, _, IsBlk.new _ _ _⟩⟩, fun w h => ⟨h.1, h.2.1⟩, ?_⟩
            generalize wcx.heap.size = g7 at *
            clear hSc
            (try simp only [Act.put, List.setIfInBounds_toArray, List.set_cons_zero, List.set_cons_succ])
            refine Held.one (i := 8) (by kernel_rfl) ?_
            · refine HeldOp.step (i := 8) rfl rfl ?_
              intro wcx hSc
              obtain ⟨c0, c1, c2, c3, hblk⟩ := hSc.2.1
              refine ⟨undef, ((((wcx.setCell ⟨g6, 0, none⟩ (.int .u64 (wd V 0 : Nat))).setCell ⟨g6, 1, none⟩ (.int .u64 (wd V 1 : Nat))).setCell ⟨g6, 2, none⟩ (.int .u64 (wd V 2 : Nat))).setCell ⟨g6, 3, none⟩ (.int .u64 (wd V 3 : Nat))), .inr ⟨?_, rfl⟩, (fun w' => Ext wk w' ∧ IsBlk w' g6 25 #[.int .u64 (wd V 0 : Nat), .int .u64 (wd V 1 : Nat), .int .u64 (wd V 2 : Nat), .int .u64 (wd V 3 : Nat)] ∧ Four w' g7), ⟨bel4 hSc.1 hg6, stored4 hblk, Four.far4 (hSc.2.2) (by omega)⟩, fun w h => ⟨h.1, ⟨_, _, _, _, h.2.1⟩, h.2.2⟩, ?_⟩
              · have b0 := hblk.cell 0
                have b1 := hblk.cell 1
                have b2 := hblk.cell 2
                have b3 := hblk.cell 3
                simp at b0 b1 b2 b3
                have frb := hblk.free
                have ltb := hblk.lt
                go_simp
              clear hSc hblk
              (try simp only [Act.put])
              refine Held.one (i := 9) (by kernel_rfl) ?_
              · refine HeldOp.step (i := 9) rfl rfl ?_
                intro wcx hSc
                obtain ⟨c0, c1, c2, c3, hblk⟩ := hSc.2.2
                refine ⟨undef, ((((wcx.setCell ⟨g7, 0, none⟩ (.int .u64 (wd U 0 : Nat))).setCell ⟨g7, 1, none⟩ (.int .u64 (wd U 1 : Nat))).setCell ⟨g7, 2, none⟩ (.int .u64 (wd U 2 : Nat))).setCell ⟨g7, 3, none⟩ (.int .u64 (wd U 3 : Nat))), .inr ⟨?_, rfl⟩, (fun w' => Ext wk w' ∧ IsBlk w' g6 25 #[.int .u64 (wd V 0 : Nat), .int .u64 (wd V 1 : Nat), .int .u64 (wd V 2 : Nat), .int .u64 (wd V 3 : Nat)] ∧ IsBlk w' g7 25 #[.int .u64 (wd U 0 : Nat), .int .u64 (wd U 1 : Nat), .int .u64 (wd U 2 : Nat), .int .u64 (wd U 3 : Nat)]), ⟨bel4 hSc.1 hg7, far4 (hSc.2.1) (by omega), stored4 hblk⟩, fun w h => ⟨h.1, h.2.1, ⟨_, _, _, _, h.2.2⟩⟩, ?_⟩
                · have b0 := hblk.cell 0
                  have b1 := hblk.cell 1
                  have b2 := hblk.cell 2
                  have b3 := hblk.cell 3
                  simp at b0 b1 b2 b3
                  have frb := hblk.free
                  have ltb := hblk.lt
                  go_simp
                clear hSc hblk
                (try simp only [Act.put])
                refine Held.done (by kernel_rfl) ?_
                intro wz hz
                have hne : g6 ≠ g7 := by omega
                go_wp2_with fail
                go_meet
                exact ⟨g6, g7, rfl, rfl, hg6, hz.1, hz.2.1, hz.2.2⟩
        · refine HeldOp.step (i := 7) rfl rfl ?_
          intro wcx hSc
          have hg7 : wk.heap.size ≤ wcx.heap.size := Below.size (hSc.1)
          have hn7 : g6 < wcx.heap.size := Four.lt (hSc.2)
          refine ⟨.pointer (some ⟨wcx.heap.size, 0, none⟩), wcx.alloc (.cells #[.int .u64 0, .int .u64 0, .int .u64 0, .int .u64 0] 25), .inl (by go_simp), (fun w' => Ext wk w' ∧ Four w' g6 ∧ Four w' wcx.heap.size), ⟨Below.alloc (hSc.1) (Below.size (hSc.1)) _, Four.alloc (hSc.2) _, ⟨_, _, _, _, IsBlk.new _ _ _⟩⟩, fun w h => ⟨h.1, h.2.1⟩, ?_⟩
          generalize wcx.heap.size = g7 at *
          clear hSc
          (try simp only [Act.put, List.setIfInBounds_toArray, List.set_cons_zero, List.set_cons_succ])
          refine Held.one (i := 5) (by kernel_rfl) ?_
          · refine HeldOp.call (i := 5) (f := ?_) (args := ?_) rfl rfl ?_ ?_
            rotate_left 2
            · (intro w hS; go_simp; (first | with_reducible rfl | (refine ⟨?_, ?_⟩ <;> with_reducible rfl)))
            intro wcx hSc
            (with_reducible refine (KU.out _).mono ?_)
            rintro e vc ⟨rfl, hb⟩
            refine ⟨_, rfl, (fun w' => Ext wk w' ∧ Four w' g6 ∧ Four w' g7), ⟨bel_on hSc.1 hb, hSc.2.1.on hb, hSc.2.2.on hb⟩, fun w h => h, ?_⟩
            clear hSc hb
            (try simp only [Act.put, List.setIfInBounds_toArray, List.set_cons_zero, List.set_cons_succ])
            refine Held.one (i := 8) (by kernel_rfl) ?_
            · refine HeldOp.step (i := 8) rfl rfl ?_
              intro wcx hSc
              obtain ⟨c0, c1, c2, c3, hblk⟩ := hSc.2.1
              refine ⟨undef, ((((wcx.setCell ⟨g6, 0, none⟩ (.int .u64 (wd V 0 : Nat))).setCell ⟨g6, 1, none⟩ (.int .u64 (wd V 1 : Nat))).setCell ⟨g6, 2, none⟩ (.int .u64 (wd V 2 : Nat))).setCell ⟨g6, 3, none⟩ (.int .u64 (wd V 3 : Nat))), .inr ⟨?_, rfl⟩, (fun w' => Ext wk w' ∧ IsBlk w' g6 25 #[.int .u64 (wd V 0 : Nat), .int .u64 (wd V 1 : Nat), .int .u64 (wd V 2 : Nat), .int .u64 (wd V 3 : Nat)] ∧ Four w' g7), ⟨bel4 hSc.1 hg6, stored4 hblk, Four.far4 (hSc.2.2) (by omega)⟩, fun w h => ⟨h.1, ⟨_, _, _, _, h.2.1⟩, h.2.2⟩, ?_⟩
              · have b0 := hblk.cell 0
                have b1 := hblk.cell 1
                have b2 := hblk.cell 2
                have b3 := hblk.cell 3
                simp at b0 b1 b2 b3
                have frb := hblk.free
                have ltb := hblk.lt
                go_simp
              clear hSc hblk
              (try simp only [Act.put])
              refine Held.one (i := 9) (by kernel_rfl) ?_
              · refine HeldOp.step (i := 9) rfl rfl ?_
                intro wcx hSc
                obtain ⟨c0, c1, c2, c3, hblk⟩ := hSc.2.2
                refine ⟨undef, ((((wcx.setCell ⟨g7, 0, none⟩ (.int .u64 (wd U 0 : Nat))).setCell ⟨g7, 1, none⟩ (.int .u64 (wd U 1 : Nat))).setCell ⟨g7, 2, none⟩ (.int .u64 (wd U 2 : Nat))).setCell ⟨g7, 3, none⟩ (.int .u64 (wd U 3 : Nat))), .inr ⟨?_, rfl⟩, (fun w' => Ext wk w' ∧ IsBlk w' g6 25 #[.int .u64 (wd V 0 : Nat), .int .u64 (wd V 1 : Nat), .int .u64 (wd V 2 : Nat), .int .u64 (wd V 3 : Nat)] ∧ IsBlk w' g7 25 #[.int .u64 (wd U 0 : Nat), .int .u64 (wd U 1 : Nat), .int .u64 (wd U 2 : Nat), .int .u64 (wd U 3 : Nat)]), ⟨bel4 hSc.1 hg7, far4 (hSc.2.1) (by omega), stored4 hblk⟩, fun w h => ⟨h.1, h.2.1, ⟨_, _, _, _, h.2.2⟩⟩, ?_⟩
                · have b0 := hblk.cell 0
                  have b1 := hblk.cell 1
                  have b2 := hblk.cell 2
                  have b3 := hblk.cell 3
                  simp at b0 b1 b2 b3
                  have frb := hblk.free
                  have ltb := hblk.lt
                  go_simp
                clear hSc hblk
                (try simp only [Act.put])
                refine Held.done (by kernel_rfl) ?_
                intro wz hz
                have hne : g6 ≠ g7 := by omega
                go_wp2_with fail
                go_meet
                exact ⟨g6, g7, rfl, rfl, hg6, hz.1, hz.2.1, hz.2.2⟩
      · refine HeldOp.step (i := 7) rfl rfl ?_
        intro wcx hSc
        have hg7 : wk.heap.size ≤ wcx.heap.size := Below.size (hSc.1)
        have hn7 : g6 < wcx.heap.size := Four.lt (hSc.2)
        refine ⟨.pointer (some ⟨wcx.heap.size, 0, none⟩), wcx.alloc (.cells #[.int .u64 0, .int .u64 0, .int .u64 0, .int .u64 0] 25), .inl (by go_simp), (fun w' => Ext wk w' ∧ Four w' g6 ∧ Four w' wcx.heap.size), ⟨Below.alloc (hSc.1) (Below.size (hSc.1)) _, Four.alloc (hSc.2) _, ⟨_, _, _, _, IsBlk.new _ _ _⟩⟩, fun w h => ⟨h.1, h.2.1⟩, ?_⟩
        generalize wcx.heap.size = g7 at *
        clear hSc
        (try simp only [Act.put, List.setIfInBounds_toArray, List.set_cons_zero, List.set_cons_succ])
        refine Held.one (i := 2) (by kernel_rfl) ?_
        · refine HeldOp.call (i := 2) (f := ?_) (args := ?_) rfl rfl ?_ ?_
          rotate_left 2
          · (intro w hS; go_simp; (first | with_reducible rfl | (refine ⟨?_, ?_⟩ <;> with_reducible rfl)))
          intro wcx hSc
          (with_reducible refine (KV.out _).mono ?_)
          rintro e vc ⟨rfl, hb⟩
          refine ⟨_, rfl, (fun w' => Ext wk w' ∧ Four w' g6 ∧ Four w' g7), ⟨bel_on hSc.1 hb, hSc.2.1.on hb, hSc.2.2.on hb⟩, fun w h => h, ?_⟩
          clear hSc hb
          (try simp only [Act.put, List.setIfInBounds_toArray, List.set_cons_zero, List.set_cons_succ])
          refine Held.one (i := 5) (by kernel_rfl) ?_
          · refine HeldOp.call (i := 5) (f := ?_) (args := ?_) rfl rfl ?_ ?_
            rotate_left 2
            · (intro w hS; go_simp; (first | with_reducible rfl | (refine ⟨?_, ?_⟩ <;> with_reducible rfl)))
            intro wcx hSc
            (with_reducible refine (KU.out _).mono ?_)
            rintro e vc ⟨rfl, hb⟩
            refine ⟨_, rfl, (fun w' => Ext wk w' ∧ Four w' g6 ∧ Four w' g7), ⟨bel_on hSc.1 hb, hSc.2.1.on hb, hSc.2.2.on hb⟩, fun w h => h, ?_⟩
            clear hSc hb
            (try simp only [Act.put, List.setIfInBounds_toArray, List.set_cons_zero, List.set_cons_succ])
            refine Held.one (i := 8) (by kernel_rfl) ?_
            · refine HeldOp.step (i := 8) rfl rfl ?_
              intro wcx hSc
              obtain ⟨c0, c1, c2, c3, hblk⟩ := hSc.2.1
              refine ⟨undef, ((((wcx.setCell ⟨g6, 0, none⟩ (.int .u64 (wd V 0 : Nat))).setCell ⟨g6, 1, none⟩ (.int .u64 (wd V 1 : Nat))).setCell ⟨g6, 2, none⟩ (.int .u64 (wd V 2 : Nat))).setCell ⟨g6, 3, none⟩ (.int .u64 (wd V 3 : Nat))), .inr ⟨?_, rfl⟩, (fun w' => Ext wk w' ∧ IsBlk w' g6 25 #[.int .u64 (wd V 0 : Nat), .int .u64 (wd V 1 : Nat), .int .u64 (wd V 2 : Nat), .int .u64 (wd V 3 : Nat)] ∧ Four w' g7), ⟨bel4 hSc.1 hg6, stored4 hblk, Four.far4 (hSc.2.2) (by omega)⟩, fun w h => ⟨h.1, ⟨_, _, _, _, h.2.1⟩, h.2.2⟩, ?_⟩
              · have b0 := hblk.cell 0
                have b1 := hblk.cell 1
                have b2 := hblk.cell 2
                have b3 := hblk.cell 3
                simp at b0 b1 b2 b3
                have frb := hblk.free
                have ltb := hblk.lt
                go_simp
              clear hSc hblk
              (try simp only [Act.put])
              refine Held.one (i := 9) (by kernel_rfl) ?_
              · refine HeldOp.step (i := 9) rfl rfl ?_
                intro wcx hSc
                obtain ⟨c0, c1, c2, c3, hblk⟩ := hSc.2.2
                refine ⟨undef, ((((wcx.setCell ⟨g7, 0, none⟩ (.int .u64 (wd U 0 : Nat))).setCell ⟨g7, 1, none⟩ (.int .u64 (wd U 1 : Nat))).setCell ⟨g7, 2, none⟩ (.int .u64 (wd U 2 : Nat))).setCell ⟨g7, 3, none⟩ (.int .u64 (wd U 3 : Nat))), .inr ⟨?_, rfl⟩, (fun w' => Ext wk w' ∧ IsBlk w' g6 25 #[.int .u64 (wd V 0 : Nat), .int .u64 (wd V 1 : Nat), .int .u64 (wd V 2 : Nat), .int .u64 (wd V 3 : Nat)] ∧ IsBlk w' g7 25 #[.int .u64 (wd U 0 : Nat), .int .u64 (wd U 1 : Nat), .int .u64 (wd U 2 : Nat), .int .u64 (wd U 3 : Nat)]), ⟨bel4 hSc.1 hg7, far4 (hSc.2.1) (by omega), stored4 hblk⟩, fun w h => ⟨h.1, h.2.1, ⟨_, _, _, _, h.2.2⟩⟩, ?_⟩
                · have b0 := hblk.cell 0
                  have b1 := hblk.cell 1
                  have b2 := hblk.cell 2
                  have b3 := hblk.cell 3
                  simp at b0 b1 b2 b3
                  have frb := hblk.free
                  have ltb := hblk.lt
                  go_simp
                clear hSc hblk
                (try simp only [Act.put])
                refine Held.done (by kernel_rfl) ?_
                intro wz hz
                have hne : g6 ≠ g7 := by omega
                go_wp2_with fail
                go_meet
                exact ⟨g6, g7, rfl, rfl, hg6, hz.1, hz.2.1, hz.2.2⟩
    · refine HeldOp.step (i := 7) rfl rfl ?_
      intro wcx hSc
      have hg7 : wk.heap.size ≤ wcx.heap.size := Below.size (hSc)
      refine ⟨.pointer (some ⟨wcx.heap.size, 0, none⟩), wcx.alloc (.cells #[.int .u64 0, .int .u64 0, .int .u64 0, .int .u64 0] 25), .inl (by go_simp), (fun w' => Ext wk w' ∧ Four w' wcx.heap.size), ⟨Below.alloc (hSc) (Below.size (hSc)) _, ⟨_, _, _, _, IsBlk.new _ _ _⟩⟩, fun w h => h.1, ?_⟩
      generalize wcx.heap.size = g7 at *
      clear hSc
      (try simp only [Act.put, List.setIfInBounds_toArray, List.set_cons_zero, List.set_cons_succ])
      refine Held.two (i := 2) (j := 6) (by kernel_rfl) ?_ ?_
      · refine HeldOp.call (i := 2) (f := ?_) (args := ?_) rfl rfl ?_ ?_
        rotate_left 2
        · (intro w hS; go_simp; (first | with_reducible rfl | (refine ⟨?_, ?_⟩ <;> with_reducible rfl)))
        intro wcx hSc
        (with_reducible refine (KV.out _).mono ?_)
        rintro e vc ⟨rfl, hb⟩
        refine ⟨_, rfl, (fun w' => Ext wk w' ∧ Four w' g7), ⟨bel_on hSc.1 hb, hSc.2.on hb⟩, fun w h => h, ?_⟩
        clear hSc hb
        (try simp only [Act.put, List.setIfInBounds_toArray, List.set_cons_zero, List.set_cons_succ])
        refine Held.two (i := 5) (j := 6) (by kernel_rfl) ?_ ?_
        · refine HeldOp.call (i := 5) (f := ?_) (args := ?_) rfl rfl ?_ ?_
          rotate_left 2
          · (intro w hS; go_simp; (first | with_reducible rfl | (refine ⟨?_, ?_⟩ <;> with_reducible rfl)))
          intro wcx hSc
          (with_reducible refine (KU.out _).mono ?_)
          rintro e vc ⟨rfl, hb⟩
          refine ⟨_, rfl, (fun w' => Ext wk w' ∧ Four w' g7), ⟨bel_on hSc.1 hb, hSc.2.on hb⟩, fun w h => h, ?_⟩
          clear hSc hb
          (try simp only [Act.put, List.setIfInBounds_toArray, List.set_cons_zero, List.set_cons_succ])
          refine Held.one (i := 6) (by kernel_rfl) ?_
          · refine HeldOp.step (i := 6) rfl rfl ?_
            intro wcx hSc
            have hg6 : wk.heap.size ≤ wcx.heap.size := Below.size (hSc.1)
            have hn6 : g7 < wcx.heap.size := Four.lt (hSc.2)
            refine ⟨.pointer (some ⟨wcx.heap.size, 0, none⟩), wcx.alloc (.cells #[.int .u64 0, .int .u64 0, .int .u64 0, .int .u64 0] 25), .inl (by go_simp), (fun w' => Ext wk w' ∧ Four w' wcx.heap.size ∧ Four w' g7), ⟨Below.alloc (hSc.1) (Below.size (hSc.1)) _, ⟨_, _, _, _, IsBlk.new _ _ _⟩, Four.alloc (hSc.2) _⟩, fun w h => ⟨h.1, h.2.2⟩, ?_⟩
            generalize wcx.heap.size = g6 at *
            clear hSc
            (try simp only [Act.put, List.setIfInBounds_toArray, List.set_cons_zero, List.set_cons_succ])
            refine Held.one (i := 8) (by kernel_rfl) ?_
            · refine HeldOp.step (i := 8) rfl rfl ?_
              intro wcx hSc
              obtain ⟨c0, c1, c2, c3, hblk⟩ := hSc.2.1
              refine ⟨undef, ((((wcx.setCell ⟨g6, 0, none⟩ (.int .u64 (wd V 0 : Nat))).setCell ⟨g6, 1, none⟩ (.int .u64 (wd V 1 : Nat))).setCell ⟨g6, 2, none⟩ (.int .u64 (wd V 2 : Nat))).setCell ⟨g6, 3, none⟩ (.int .u64 (wd V 3 : Nat))), .inr ⟨?_, rfl⟩, (fun w' => Ext wk w' ∧ IsBlk w' g6 25 #[.int .u64 (wd V 0 : Nat), .int .u64 (wd V 1 : Nat), .int .u64 (wd V 2 : Nat), .int .u64 (wd V 3 : Nat)] ∧ Four w' g7), ⟨bel4 hSc.1 hg6, stored4 hblk, Four.far4 (hSc.2.2) (by omega)⟩, fun w h => ⟨h.1, ⟨_, _, _, _, h.2.1⟩, h.2.2⟩, ?_⟩
              · have b0 := hblk.cell 0
                have b1 := hblk.cell 1
                have b2 := hblk.cell 2
                have b3 := hblk.cell 3
                simp at b0 b1 b2 b3
                have frb := hblk.free
                have ltb := hblk.lt
                go_simp
              clear hSc hblk
              (try simp only [Act.put])
              refine Held.one (i := 9) (by kernel_rfl) ?_
              · refine HeldOp.step (i := 9) rfl rfl ?_
                intro wcx hSc
                obtain ⟨c0, c1, c2, c3, hblk⟩ := hSc.2.2
                refine ⟨undef, ((((wcx.setCell ⟨g7, 0, none⟩ (.int .u64 (wd U 0 : Nat))).setCell ⟨g7, 1, none⟩ (.int .u64 (wd U 1 : Nat))).setCell ⟨g7, 2, none⟩ (.int .u64 (wd U 2 : Nat))).setCell ⟨g7, 3, none⟩ (.int .u64 (wd U 3 : Nat))), .inr ⟨?_, rfl⟩, (fun w' => Ext wk w' ∧ IsBlk w' g6 25 #[.int .u64 (wd V 0 : Nat), .int .u64 (wd V 1 : Nat), .int .u64 (wd V 2 : Nat), .int .u64 (wd V 3 : Nat)] ∧ IsBlk w' g7 25 #[.int .u64 (wd U 0 : Nat), .int .u64 (wd U 1 : Nat), .int .u64 (wd U 2 : Nat), .int .u64 (wd U 3 : Nat)]), ⟨bel4 hSc.1 hg7, far4 (hSc.2.1) (by omega), stored4 hblk⟩, fun w h => ⟨h.1, h.2.1, ⟨_, _, _, _, h.2.2⟩⟩, ?_⟩
                · have b0 := hblk.cell 0
                  have b1 := hblk.cell 1
                  have b2 := hblk.cell 2
                  have b3 := hblk.cell 3
                  simp at b0 b1 b2 b3
                  have frb := hblk.free
                  have ltb := hblk.lt
                  go_simp
                clear hSc hblk
                (try simp only [Act.put])
                refine Held.done (by kernel_rfl) ?_
                intro wz hz
                have hne : g6 ≠ g7 := by omega
                go_wp2_with fail
                go_meet
                exact ⟨g6, g7, rfl, rfl, hg6, hz.1, hz.2.1, hz.2.2⟩
        · refine HeldOp.step (i := 6) rfl rfl ?_
          intro wcx hSc
          have hg6 : wk.heap.size ≤ wcx.heap.size := Below.size (hSc.1)
          have hn6 : g7 < wcx.heap.size := Four.lt (hSc.2)
          refine ⟨.pointer (some ⟨wcx.heap.size, 0, none⟩), wcx.alloc (.cells #[.int .u64 0, .int .u64 0, .int .u64 0, .int .u64 0] 25), .inl (by go_simp), (fun w' => Ext wk w' ∧ Four w' wcx.heap.size ∧ Four w' g7), ⟨Below.alloc (hSc.1) (Below.size (hSc.1)) _, ⟨_, _, _, _, IsBlk.new _ _ _⟩, Four.alloc (hSc.2) _⟩, fun w h => ⟨h.1, h.2.2⟩, ?_⟩
          generalize wcx.heap.size = g6 at *
          clear hSc
          (try simp only [Act.put, List.setIfInBounds_toArray, List.set_cons_zero, List.set_cons_succ])
          refine Held.one (i := 5) (by kernel_rfl) ?_
          · refine HeldOp.call (i := 5) (f := ?_) (args := ?_) rfl rfl ?_ ?_
            rotate_left 2
            · (intro w hS; go_simp; (first | with_reducible rfl | (refine ⟨?_, ?_⟩ <;> with_reducible rfl)))
            intro wcx hSc
            (with_reducible refine (KU.out _).mono ?_)
            rintro e vc ⟨rfl, hb⟩
            refine ⟨_, rfl, (fun w' => Ext wk w' ∧ Four w' g6 ∧ Four w' g7), ⟨bel_on hSc.1 hb, hSc.2.1.on hb, hSc.2.2.on hb⟩, fun w h => h, ?_⟩
            clear hSc hb
            (try simp only [Act.put, List.setIfInBounds_toArray, List.set_cons_zero, List.set_cons_succ])
            refine Held.one (i := 8) (by kernel_rfl) ?_
            · refine HeldOp.step (i := 8) rfl rfl ?_
              intro wcx hSc
              obtain ⟨c0, c1, c2, c3, hblk⟩ := hSc.2.1
              refine ⟨undef, ((((wcx.setCell ⟨g6, 0, none⟩ (.int .u64 (wd V 0 : Nat))).setCell ⟨g6, 1, none⟩ (.int .u64 (wd V 1 : Nat))).setCell ⟨g6, 2, none⟩ (.int .u64 (wd V 2 : Nat))).setCell ⟨g6, 3, none⟩ (.int .u64 (wd V 3 : Nat))), .inr ⟨?_, rfl⟩, (fun w' => Ext wk w' ∧ IsBlk w' g6 25 #[.int .u64 (wd V 0 : Nat), .int .u64 (wd V 1 : Nat), .int .u64 (wd V 2 : Nat), .int .u64 (wd V 3 : Nat)] ∧ Four w' g7), ⟨bel4 hSc.1 hg6, stored4 hblk, Four.far4 (hSc.2.2) (by omega)⟩, fun w h => ⟨h.1, ⟨_, _, _, _, h.2.1⟩, h.2.2⟩, ?_⟩
              · have b0 := hblk.cell 0
                have b1 := hblk.cell 1
                have b2 := hblk.cell 2
                have b3 := hblk.cell 3
                simp at b0 b1 b2 b3
                have frb := hblk.free
                have ltb := hblk.lt
                go_simp
              clear hSc hblk
              (try simp only [Act.put])
              refine Held.one (i := 9) (by kernel_rfl) ?_
              · refine HeldOp.step (i := 9) rfl rfl ?_
                intro wcx hSc
                obtain ⟨c0, c1, c2, c3, hblk⟩ := hSc.2.2
                refine ⟨undef, ((((wcx.setCell ⟨g7, 0, none⟩ (.int .u64 (wd U 0 : Nat))).setCell ⟨g7, 1, none⟩ (.int .u64 (wd U 1 : Nat))).setCell ⟨g7, 2, none⟩ (.int .u64 (wd U 2 : Nat))).setCell ⟨g7, 3, none⟩ (.int .u64 (wd U 3 : Nat))), .inr ⟨?_, rfl⟩, (fun w' => Ext wk w' ∧ IsBlk w' g6 25 #[.int .u64 (wd V 0 : Nat), .int .u64 (wd V 1 : Nat), .int .u64 (wd V 2 : Nat), .int .u64 (wd V 3 : Nat)] ∧ IsBlk w' g7 25 #[.int .u64 (wd U 0 : Nat), .int .u64 (wd U 1 : Nat), .int .u64 (wd U 2 : Nat), .int .u64 (wd U 3 : Nat)]), ⟨bel4 hSc.1 hg7, far4 (hSc.2.1) (by omega), stored4 hblk⟩, fun w h => ⟨h.1, h.2.1, ⟨_, _, _, _, h.2.2⟩⟩, ?_⟩
                · have b0 := hblk.cell 0
                  have b1 := hblk.cell 1
                  have b2 := hblk.cell 2
                  have b3 := hblk.cell 3
                  simp at b0 b1 b2 b3
                  have frb := hblk.free
                  have ltb := hblk.lt
                  go_simp
                clear hSc hblk
                (try simp only [Act.put])
                refine Held.done (by kernel_rfl) ?_
                intro wz hz
                have hne : g6 ≠ g7 := by omega
                go_wp2_with fail
                go_meet
                exact ⟨g6, g7, rfl, rfl, hg6, hz.1, hz.2.1, hz.2.2⟩
      · refine HeldOp.step (i := 6) rfl rfl ?_
        intro wcx hSc
        have hg6 : wk.heap.size ≤ wcx.heap.size := Below.size (hSc.1)
        have hn6 : g7 < wcx.heap.size := Four.lt (hSc.2)
        refine ⟨.pointer (some ⟨wcx.heap.size, 0, none⟩), wcx.alloc (.cells #[.int .u64 0, .int .u64 0, .int .u64 0, .int .u64 0] 25), .inl (by go_simp), (fun w' => Ext wk w' ∧ Four w' wcx.heap.size ∧ Four w' g7), ⟨Below.alloc (hSc.1) (Below.size (hSc.1)) _, ⟨_, _, _, _, IsBlk.new _ _ _⟩, Four.alloc (hSc.2) _⟩, fun w h => ⟨h.1, h.2.2⟩, ?_⟩
        generalize wcx.heap.size = g6 at *
        clear hSc
        (try simp only [Act.put, List.setIfInBounds_toArray, List.set_cons_zero, List.set_cons_succ])
        refine Held.one (i := 2) (by kernel_rfl) ?_
        · refine HeldOp.call (i := 2) (f := ?_) (args := ?_) rfl rfl ?_ ?_
          rotate_left 2
          · (intro w hS; go_simp; (first | with_reducible rfl | (refine ⟨?_, ?_⟩ <;> with_reducible rfl)))
          intro wcx hSc
          (with_reducible refine (KV.out _).mono ?_)
          rintro e vc ⟨rfl, hb⟩
          refine ⟨_, rfl, (fun w' => Ext wk w' ∧ Four w' g6 ∧ Four w' g7), ⟨bel_on hSc.1 hb, hSc.2.1.on hb, hSc.2.2.on hb⟩, fun w h => h, ?_⟩
          clear hSc hb
          (try simp only [Act.put, List.setIfInBounds_toArray, List.set_cons_zero, List.set_cons_succ])
          refine Held.one (i := 5) (by kernel_rfl) ?_
          · refine HeldOp.call (i := 5) (f := ?_) (args := ?_) rfl rfl ?_ ?_
            rotate_left 2
            · (intro w hS; go_simp; (first | with_reducible rfl | (refine ⟨?_, ?_⟩ <;> with_reducible rfl)))
            intro wcx hSc
            (with_reducible refine (KU.out _).mono ?_)
            rintro e vc ⟨rfl, hb⟩
            refine ⟨_, rfl, (fun w' => Ext wk w' ∧ Four w' g6 ∧ Four w' g7), ⟨bel_on hSc.1 hb, hSc.2.1.on hb, hSc.2.2.on hb⟩, fun w h => h, ?_⟩
            clear hSc hb
            (try simp only [Act.put, List.setIfInBounds_toArray, List.set_cons_zero, List.set_cons_succ])
            refine Held.one (i := 8) (by kernel_rfl) ?_
            · refine HeldOp.step (i := 8) rfl rfl ?_
              intro wcx hSc
              obtain ⟨c0, c1, c2, c3, hblk⟩ := hSc.2.1
              refine ⟨undef, ((((wcx.setCell ⟨g6, 0, none⟩ (.int .u64 (wd V 0 : Nat))).setCell ⟨g6, 1, none⟩ (.int .u64 (wd V 1 : Nat))).setCell ⟨g6, 2, none⟩ (.int .u64 (wd V 2 : Nat))).setCell ⟨g6, 3, none⟩ (.int .u64 (wd V 3 : Nat))), .inr ⟨?_, rfl⟩, (fun w' => Ext wk w' ∧ IsBlk w' g6 25 #[.int .u64 (wd V 0 : Nat), .int .u64 (wd V 1 : Nat), .int .u64 (wd V 2 : Nat), .int .u64 (wd V 3 : Nat)] ∧ Four w' g7), ⟨bel4 hSc.1 hg6, stored4 hblk, Four.far4 (hSc.2.2) (by omega)⟩, fun w h => ⟨h.1, ⟨_, _, _, _, h.2.1⟩, h.2.2⟩, ?_⟩
              · have b0 := hblk.cell 0
                have b1 := hblk.cell 1
                have b2 := hblk.cell 2
                have b3 := hblk.cell 3
                simp at b0 b1 b2 b3
                have frb := hblk.free
                have ltb := hblk.lt
                go_simp
              clear hSc hblk
              (try simp only [Act.put])
              refine Held.one (i := 9) (by kernel_rfl) ?_
              · refine HeldOp.step (i := 9) rfl rfl ?_
                intro wcx hSc
                obtain ⟨c0, c1, c2, c3, hblk⟩ := hSc.2.2
                refine ⟨undef, ((((wcx.setCell ⟨g7, 0, none⟩ (.int .u64 (wd U 0 : Nat))).setCell ⟨g7, 1, none⟩ (.int .u64 (wd U 1 : Nat))).setCell ⟨g7, 2, none⟩ (.int .u64 (wd U 2 : Nat))).setCell ⟨g7, 3, none⟩ (.int .u64 (wd U 3 : Nat))), .inr ⟨?_, rfl⟩, (fun w' => Ext wk w' ∧ IsBlk w' g6 25 #[.int .u64 (wd V 0 : Nat), .int .u64 (wd V 1 : Nat), .int .u64 (wd V 2 : Nat), .int .u64 (wd V 3 : Nat)] ∧ IsBlk w' g7 25 #[.int .u64 (wd U 0 : Nat), .int .u64 (wd U 1 : Nat), .int .u64 (wd U 2 : Nat), .int .u64 (wd U 3 : Nat)]), ⟨bel4 hSc.1 hg7, far4 (hSc.2.1) (by omega), stored4 hblk⟩, fun w h => ⟨h.1, h.2.1, ⟨_, _, _, _, h.2.2⟩⟩, ?_⟩
                · have b0 := hblk.cell 0
                  have b1 := hblk.cell 1
                  have b2 := hblk.cell 2
                  have b3 := hblk.cell 3
                  simp at b0 b1 b2 b3
                  have frb := hblk.free
                  have ltb := hblk.lt
                  go_simp
                clear hSc hblk
                (try simp only [Act.put])
                refine Held.done (by kernel_rfl) ?_
                intro wz hz
                have hne : g6 ≠ g7 := by omega
                go_wp2_with fail
                go_meet
                exact ⟨g6, g7, rfl, rfl, hg6, hz.1, hz.2.1, hz.2.2⟩
  case rest =>
    obtain ⟨gv, gu, rfl, rfl, hgv, hx0, hv0, hu0⟩ := hcut
    rename World => wa
    have Hi2 := Lib.hid (Hi1.out.after hx0)
    have Hh2 := Lib.hid (Hh1.out.after hx0)
    have Hx2 := Lib.hid (Hx1.out.after hx0)
    have Hy2 := Lib.hid (Hy1.out.after hx0)
    have HB2 := Lib.hid (bel_on HB1.out hx0)
    clear Hi1 Hh1 Hx1 Hy1 HB1
    have Hv := Lib.hid hv0
    have Hu := Lib.hid hu0
    clear hx0 hv0 hu0 hgv
    have hv := Hv.out
    have vv0 := hv.cell 0
    have vv1 := hv.cell 1
    have vv2 := hv.cell 2
    have vv3 := hv.cell 3
    simp at vv0 vv1 vv2 vv3
    have frvv := hv.free
    have lvv := hv.lt
    clear hv
    have hu := Hu.out
    have vu0 := hu.cell 0
    have vu1 := hu.cell 1
    have vu2 := hu.cell 2
    have vu3 := hu.cell 3
    simp at vu0 vu1 vu2 vu3
    have frvu := hu.free
    have lvu := hu.lt
    clear hu
    go_upto_region 8 with fail
    clear vv0 vv1 vv2 vv3 frvv lvv
    clear vu0 vu1 vu2 vu3 frvu lvu
    go_cut [74] (fun s74 wx => s74 = .bool false ∧ Ext wa wx)
    case first =>
      rcases hMN with ⟨m1, m2, m3⟩ | ⟨m1, m2, m3, m4⟩ | ⟨m1, m2, m3⟩
      · skip
        have hx := Hx2.out.after (show Below wa.heap.size wa wa from (Ext.refl wa))
        have vx0 := hx.cell 0
        have vx1 := hx.cell 1
        have vx2 := hx.cell 2
        have vx3 := hx.cell 3
        simp at vx0 vx1 vx2 vx3
        have frvx := hx.free
        have lvx := hx.lt
        clear hx
        have hy := Hy2.out.after (show Below wa.heap.size wa wa from (Ext.refl wa))
        have vy0 := hy.cell 0
        have vy1 := hy.cell 1
        have vy2 := hy.cell 2
        have vy3 := hy.cell 3
        simp at vy0 vy1 vy2 vy3
        have frvy := hy.free
        have lvy := hy.lt
        clear hy
        go_wp2_with fail
        refine (K3.out _).mono ?_
        rintro e q0 ⟨rfl, hq0⟩
        have hxx0 := hq0
        clear vx0 vx1 vx2 vx3 frvx lvx
        clear vy0 vy1 vy2 vy3 frvy lvy
        have hv := Hv.out.after (show Below wa.heap.size wa q0 from hxx0)
        have vv0 := hv.cell 0
        have vv1 := hv.cell 1
        have vv2 := hv.cell 2
        have vv3 := hv.cell 3
        simp at vv0 vv1 vv2 vv3
        have frvv := hv.free
        have lvv := hv.lt
        clear hv
        have hu := Hu.out.after (show Below wa.heap.size wa q0 from hxx0)
        have vu0 := hu.cell 0
        have vu1 := hu.cell 1
        have vu2 := hu.cell 2
        have vu3 := hu.cell 3
        simp at vu0 vu1 vu2 vu3
        have frvu := hu.free
        have lvu := hu.lt
        clear hu
        go_wp2_with fail
        refine (K4.out _).mono ?_
        rintro e q1 ⟨rfl, hq1⟩
        have hxx1 := bel_on hxx0 hq1
        clear vv0 vv1 vv2 vv3 frvv lvv
        clear vu0 vu1 vu2 vu3 frvu lvu
        have hx := Hx2.out.after (show Below wa.heap.size wa q1 from hxx1)
        have vx0 := hx.cell 0
        have vx1 := hx.cell 1
        have vx2 := hx.cell 2
        have vx3 := hx.cell 3
        simp at vx0 vx1 vx2 vx3
        have frvx := hx.free
        have lvx := hx.lt
        clear hx
        have hy := Hy2.out.after (show Below wa.heap.size wa q1 from hxx1)
        have vy0 := hy.cell 0
        have vy1 := hy.cell 1
        have vy2 := hy.cell 2
        have vy3 := hy.cell 3
        simp at vy0 vy1 vy2 vy3
        have frvy := hy.free
        have lvy := hy.lt
        clear hy
        go_wp2_with fail
        refine (K3.out _).mono ?_
        rintro e q2 ⟨rfl, hq2⟩
        have hxx2 := bel_on hxx1 hq2
        clear vx0 vx1 vx2 vx3 frvx lvx
        clear vy0 vy1 vy2 vy3 frvy lvy
        go_wp2_with fail
        go_meet
        exact ⟨by first | rfl | (simp <;> omega), hxx2⟩
      · skip
        have hx := Hx2.out.after (show Below wa.heap.size wa wa from (Ext.refl wa))
        have vx0 := hx.cell 0
        have vx1 := hx.cell 1
        have vx2 := hx.cell 2
        have vx3 := hx.cell 3
        simp at vx0 vx1 vx2 vx3
        have frvx := hx.free
        have lvx := hx.lt
        clear hx
        have hy := Hy2.out.after (show Below wa.heap.size wa wa from (Ext.refl wa))
        have vy0 := hy.cell 0
        have vy1 := hy.cell 1
        have vy2 := hy.cell 2
        have vy3 := hy.cell 3
        simp at vy0 vy1 vy2 vy3
        have frvy := hy.free
        have lvy := hy.lt
        clear hy
        go_wp2_with fail
        refine (K3.out _).mono ?_
        rintro e q0 ⟨rfl, hq0⟩
        have hxx0 := hq0
        clear vx0 vx1 vx2 vx3 frvx lvx
        clear vy0 vy1 vy2 vy3 frvy lvy
        have hv := Hv.out.after (show Below wa.heap.size wa q0 from hxx0)
        have vv0 := hv.cell 0
        have vv1 := hv.cell 1
        have vv2 := hv.cell 2
        have vv3 := hv.cell 3
        simp at vv0 vv1 vv2 vv3
        have frvv := hv.free
        have lvv := hv.lt
        clear hv
        have hu := Hu.out.after (show Below wa.heap.size wa q0 from hxx0)
        have vu0 := hu.cell 0
        have vu1 := hu.cell 1
        have vu2 := hu.cell 2
        have vu3 := hu.cell 3
        simp at vu0 vu1 vu2 vu3
        have frvu := hu.free
        have lvu := hu.lt
        clear hu
        go_wp2_with fail
        refine (K4.out _).mono ?_
        rintro e q1 ⟨rfl, hq1⟩
        have hxx1 := bel_on hxx0 hq1
        clear vv0 vv1 vv2 vv3 frvv lvv
        clear vu0 vu1 vu2 vu3 frvu lvu
        have hx := Hx2.out.after (show Below wa.heap.size wa q1 from hxx1)
        have vx0 := hx.cell 0
        have vx1 := hx.cell 1
        have vx2 := hx.cell 2
        have vx3 := hx.cell 3
        simp at vx0 vx1 vx2 vx3
        have frvx := hx.free
        have lvx := hx.lt
        clear hx
        have hy := Hy2.out.after (show Below wa.heap.size wa q1 from hxx1)
        have vy0 := hy.cell 0
        have vy1 := hy.cell 1
        have vy2 := hy.cell 2
        have vy3 := hy.cell 3
        simp at vy0 vy1 vy2 vy3
        have frvy := hy.free
        have lvy := hy.lt
        clear hy
        go_wp2_with fail
        refine (K3.out _).mono ?_
        rintro e q2 ⟨rfl, hq2⟩
        have hxx2 := bel_on hxx1 hq2
        clear vx0 vx1 vx2 vx3 frvx lvx
        clear vy0 vy1 vy2 vy3 frvy lvy
        have hv := Hv.out.after (show Below wa.heap.size wa q2 from hxx2)
        have vv0 := hv.cell 0
        have vv1 := hv.cell 1
        have vv2 := hv.cell 2
        have vv3 := hv.cell 3
        simp at vv0 vv1 vv2 vv3
        have frvv := hv.free
        have lvv := hv.lt
        clear hv
        have hu := Hu.out.after (show Below wa.heap.size wa q2 from hxx2)
        have vu0 := hu.cell 0
        have vu1 := hu.cell 1
        have vu2 := hu.cell 2
        have vu3 := hu.cell 3
        simp at vu0 vu1 vu2 vu3
        have frvu := hu.free
        have lvu := hu.lt
        clear hu
        go_wp2_with fail
        refine (K4.out _).mono ?_
        rintro e q3 ⟨rfl, hq3⟩
        have hxx3 := bel_on hxx2 hq3
        clear vv0 vv1 vv2 vv3 frvv lvv
        clear vu0 vu1 vu2 vu3 frvu lvu
        go_wp2_with fail
        go_meet
        exact ⟨by first | rfl | (simp <;> omega), hxx3⟩
      · skip
        have hx := Hx2.out.after (show Below wa.heap.size wa wa from (Ext.refl wa))
        have vx0 := hx.cell 0
        have vx1 := hx.cell 1
        have vx2 := hx.cell 2
        have vx3 := hx.cell 3
        simp at vx0 vx1 vx2 vx3
        have frvx := hx.free
        have lvx := hx.lt
        clear hx
        have hy := Hy2.out.after (show Below wa.heap.size wa wa from (Ext.refl wa))
        have vy0 := hy.cell 0
        have vy1 := hy.cell 1
        have vy2 := hy.cell 2
        have vy3 := hy.cell 3
        simp at vy0 vy1 vy2 vy3
        have frvy := hy.free
        have lvy := hy.lt
        clear hy
        go_wp2_with fail
        refine (K3.out _).mono ?_
        rintro e q0 ⟨rfl, hq0⟩
        have hxx0 := hq0
        clear vx0 vx1 vx2 vx3 frvx lvx
        clear vy0 vy1 vy2 vy3 frvy lvy
        have hx := Hx2.out.after (show Below wa.heap.size wa q0 from hxx0)
        have vx0 := hx.cell 0
        have vx1 := hx.cell 1
        have vx2 := hx.cell 2
        have vx3 := hx.cell 3
        simp at vx0 vx1 vx2 vx3
        have frvx := hx.free
        have lvx := hx.lt
        clear hx
        have hy := Hy2.out.after (show Below wa.heap.size wa q0 from hxx0)
        have vy0 := hy.cell 0
        have vy1 := hy.cell 1
        have vy2 := hy.cell 2
        have vy3 := hy.cell 3
        simp at vy0 vy1 vy2 vy3
        have frvy := hy.free
        have lvy := hy.lt
        clear hy
        go_wp2_with fail
        refine (K3.out _).mono ?_
        rintro e q1 ⟨rfl, hq1⟩
        have hxx1 := bel_on hxx0 hq1
        clear vx0 vx1 vx2 vx3 frvx lvx
        clear vy0 vy1 vy2 vy3 frvy lvy
        have hv := Hv.out.after (show Below wa.heap.size wa q1 from hxx1)
        have vv0 := hv.cell 0
        have vv1 := hv.cell 1
        have vv2 := hv.cell 2
        have vv3 := hv.cell 3
        simp at vv0 vv1 vv2 vv3
        have frvv := hv.free
        have lvv := hv.lt
        clear hv
        have hu := Hu.out.after (show Below wa.heap.size wa q1 from hxx1)
        have vu0 := hu.cell 0
        have vu1 := hu.cell 1
        have vu2 := hu.cell 2
        have vu3 := hu.cell 3
        simp at vu0 vu1 vu2 vu3
        have frvu := hu.free
        have lvu := hu.lt
        clear hu
        go_wp2_with fail
        refine (K4.out _).mono ?_
        rintro e q2 ⟨rfl, hq2⟩
        have hxx2 := bel_on hxx1 hq2
        clear vv0 vv1 vv2 vv3 frvv lvv
        clear vu0 vu1 vu2 vu3 frvu lvu
        go_wp2_with fail
        go_meet
        exact ⟨by first | rfl | (simp <;> omega), hxx2⟩
    case rest =>
      obtain ⟨rfl, hx0⟩ := hcut
      rename World => wb
      have Hi3 := Lib.hid (Hi2.out.after hx0)
      have Hh3 := Lib.hid (Hh2.out.after hx0)
      have Hx3 := Lib.hid (Hx2.out.after hx0)
      have Hy3 := Lib.hid (Hy2.out.after hx0)
      have Hv3 := Lib.hid (Hv.out.after hx0)
      have Hu3 := Lib.hid (Hu.out.after hx0)
      have HB3 := Lib.hid (bel_on HB2.out hx0)
      clear Hi2 Hh2 Hx2 Hy2 Hv Hu HB2
      clear hx0
      go_upto_region 10 with fail
      have HLD := Lib.hid (fun w' (h : IsBlk w' (w.heap.size + 1) 35 ch) => hash_load HCH.out h)
      go_cut [11, 12] (fun s11 s12 wx => s11 = .int .i64 m ∧ s12 = .int .i64 n ∧ Ext wb wx)
      case first =>
        have hi := Hi3.out
        refine wp_region_seq (S := fun w' => (((w'.cell? ⟨w.heap.size, 0, none⟩ = some (.int .u32 (b0 : Nat)) ∧ w'.cell? ⟨w.heap.size, 1, none⟩ = some (.int .u32 (b1 : Nat))) ∧ w'.cell? ⟨w.heap.size, 2, none⟩ = some (.int .u32 (b2 : Nat))) ∧ IsBlk w' (w.heap.size + 1) 35 ch ∧ Ext wb w')) (by kernel_rfl) (by kernel_rfl) ⟨by have hx := hi.drew; exact ⟨⟨hx.cell 0, hx.cell 1⟩, hx.cell 2⟩, Hh3.out.drew, (Below.refl _ _).drew⟩ ?_
        have HST := Lib.hid (show ∀ w1' w2', (((w1'.cell? ⟨w.heap.size, 0, none⟩ = some (.int .u32 (b0 : Nat)) ∧ w1'.cell? ⟨w.heap.size, 1, none⟩ = some (.int .u32 (b1 : Nat))) ∧ w1'.cell? ⟨w.heap.size, 2, none⟩ = some (.int .u32 (b2 : Nat))) ∧ IsBlk w1' (w.heap.size + 1) 35 ch ∧ Ext wb w1') → Below w1'.heap.size w1' w2' → (((w2'.cell? ⟨w.heap.size, 0, none⟩ = some (.int .u32 (b0 : Nat)) ∧ w2'.cell? ⟨w.heap.size, 1, none⟩ = some (.int .u32 (b1 : Nat))) ∧ w2'.cell? ⟨w.heap.size, 2, none⟩ = some (.int .u32 (b2 : Nat))) ∧ IsBlk w2' (w.heap.size + 1) 35 ch ∧ Ext wb w2') from fun _ _ h hb => ⟨⟨⟨cell_later hb h.1.1.1, cell_later hb h.1.1.2⟩, cell_later hb h.1.2⟩, h.2.1.after hb, bel_on h.2.2 hb⟩)
        clear hi
        generalize hgw : w.heap.size = gw at *
        have HGW := Lib.hid hgw
        clear hgw
        repeat (first
          | (refine SeqS.skip ?_ ?_; rfl; (try simp only [Act.put, List.setIfInBounds_toArray, List.set_cons_zero, List.set_cons_succ]))
          | (refine SeqS.long 35 (.agg ch) ?_ rfl rfl (fun w hS => HLD.out w hS.2.1) ?_; rfl; (try simp only [Act.put, List.setIfInBounds_toArray, List.set_cons_zero, List.set_cons_succ]))
          | (refine SeqS.take (v := ?_) ?_ ?_ ?_; rotate_left; rfl; (intro w hS; skip; go_simp; with_reducible rfl); (try simp only [Act.put, List.setIfInBounds_toArray, List.set_cons_zero, List.set_cons_succ]))
          | (refine SeqS.call (v := ?_) (f := ?_) (args := ?_) ?_ ?_ ?_ ?_; rotate_left 3; rfl; (intro w hS; skip; go_simp; (first | with_reducible rfl | (refine ⟨?_, ?_⟩ <;> with_reducible rfl))); (intro w hS; first | ((with_reducible refine (KM.out _).mono ?_); rintro e w' ⟨rfl, hb⟩; refine ⟨?_, HST.out _ _ hS hb⟩; with_reducible rfl) | ((with_reducible refine (KN.out _).mono ?_); rintro e w' ⟨rfl, hb⟩; refine ⟨?_, HST.out _ _ hS hb⟩; with_reducible rfl)); (try simp only [Act.put, List.setIfInBounds_toArray, List.set_cons_zero, List.set_cons_succ])))
        refine SeqS.done ?_
        rintro wz ⟨_, _, hbz⟩
        go_wp2_with fail
        go_meet
        exact ⟨rfl, rfl, hbz⟩
      case rest =>
        obtain ⟨rfl, rfl, hx0⟩ := hcut
        rename World => wd'
        have Hi4 := Lib.hid (Hi3.out.after hx0)
        have Hh4 := Lib.hid (Hh3.out.after hx0)
        have Hx4 := Lib.hid (Hx3.out.after hx0)
        have Hy4 := Lib.hid (Hy3.out.after hx0)
        have Hv4 := Lib.hid (Hv3.out.after hx0)
        have Hu4 := Lib.hid (Hu3.out.after hx0)
        have HB4 := Lib.hid (bel_on HB3.out hx0)
        clear Hi3 Hh3 Hx3 Hy3 Hv3 Hu3 HB3
        clear hx0
        have hx := Hx4.out
        have vx0 := hx.cell 0
        have vx1 := hx.cell 1
        have vx2 := hx.cell 2
        have vx3 := hx.cell 3
        simp at vx0 vx1 vx2 vx3
        have frvx := hx.free
        have lvx := hx.lt
        clear hx
        have hy := Hy4.out
        have vy0 := hy.cell 0
        have vy1 := hy.cell 1
        have vy2 := hy.cell 2
        have vy3 := hy.cell 3
        simp at vy0 vy1 vy2 vy3
        have frvy := hy.free
        have lvy := hy.lt
        clear hy
        go_upto_region 11 with fail
        go_cut [98] (fun s98 wx => s98 = .bool false ∧ Ext wd' wx)
        case first =>
          rcases hmn with hm1 | hm1 | hm1
          all_goals
            go_wp2_with fail
            refine (K3.out _).mono ?_
            rintro e q0 ⟨rfl, hq0⟩
            go_wp2_with fail
            go_meet
            exact ⟨rfl, hq0⟩
        case rest =>
          obtain ⟨rfl, hx0⟩ := hcut
          rename World => we
          clear vx0 vx1 vx2 vx3 frvx lvx
          clear vy0 vy1 vy2 vy3 frvy lvy
          have Hi5 := Lib.hid (Hi4.out.after hx0)
          have Hh5 := Lib.hid (Hh4.out.after hx0)
          have Hx5 := Lib.hid (Hx4.out.after hx0)
          have Hy5 := Lib.hid (Hy4.out.after hx0)
          have Hv5 := Lib.hid (Hv4.out.after hx0)
          have Hu5 := Lib.hid (Hu4.out.after hx0)
          have HB5 := Lib.hid (bel_on HB4.out hx0)
          clear Hi4 Hh4 Hx4 Hy4 Hv4 Hu4 HB4
          clear hx0
          go_upto_region 13 with fail
          go_cut [13] (fun sp wx => ∃ g : Nat, sp = .pointer (some ⟨g, 0, none⟩) ∧ we.heap.size ≤ g ∧ Ext we wx ∧ IsBlk wx g 25 #[.int .u64 (wd N 0 : Nat), .int .u64 (wd N 1 : Nat), .int .u64 (wd N 2 : Nat), .int .u64 (wd N 3 : Nat)])
          case first =>
            refine Held.start 9 (Ext we) (by kernel_rfl) rfl (Below.refl _ _).drew ?_
            (first | (refine Held.skip (i := 0) rfl (by kernel_rfl) (fun _ _ _ h => h) rfl ?_; (try (try simp only [Act.put, List.setIfInBounds_toArray, List.set_cons_zero, List.set_cons_succ]))) | (refine Held.take (i := 0) (v := ?_) rfl (by kernel_rfl) (fun _ _ _ h => h) rfl ?_ ?_; rotate_left; (intro w hS; have hE := hS; have hr := Hx5.out.after hE; have r0 := hr.cell 0; have r1 := hr.cell 1; have r2 := hr.cell 2; have r3 := hr.cell 3; simp at r0 r1 r2 r3; go_simp; with_reducible rfl); (try (try simp only [Act.put, List.setIfInBounds_toArray, List.set_cons_zero, List.set_cons_succ]))))
            refine Held.two (i := 1) (j := 6) (by kernel_rfl) ?_ ?_
            · refine HeldOp.call (i := 1) (f := ?_) (args := ?_) rfl rfl ?_ ?_
              rotate_left 2
              · (intro w hS; go_simp; (first | with_reducible rfl | (refine ⟨?_, ?_⟩ <;> with_reducible rfl)))
              intro wcx hSc
              (with_reducible refine (KO.out _).mono ?_)
              rintro e vc ⟨rfl, hb⟩
              refine ⟨_, rfl, (Ext we), bel_on hSc hb, fun w h => h, ?_⟩
              clear hSc hb
              (try simp only [Act.put, List.setIfInBounds_toArray, List.set_cons_zero, List.set_cons_succ])
              refine Held.two (i := 2) (j := 6) (by kernel_rfl) ?_ ?_
              · refine HeldOp.call (i := 2) (f := ?_) (args := ?_) rfl rfl ?_ ?_
                rotate_left 2
                · (intro w hS; go_simp; (first | with_reducible rfl | (refine ⟨?_, ?_⟩ <;> with_reducible rfl)))
                intro wcx hSc
                (with_reducible refine (K5.out _).mono ?_)
                rintro e vc ⟨rfl, hb⟩
                refine ⟨_, rfl, (Ext we), bel_on hSc hb, fun w h => h, ?_⟩
                clear hSc hb
                (try simp only [Act.put, List.setIfInBounds_toArray, List.set_cons_zero, List.set_cons_succ])
                (first | (refine Held.skip (i := 3) rfl (by kernel_rfl) (fun _ _ _ h => h) rfl ?_; (try (try simp only [Act.put, List.setIfInBounds_toArray, List.set_cons_zero, List.set_cons_succ]))) | (refine Held.take (i := 3) (v := ?_) rfl (by kernel_rfl) (fun _ _ _ h => h) rfl ?_ ?_; rotate_left; (intro w hS; have hE := hS; have hr := Hx5.out.after hE; have r0 := hr.cell 0; have r1 := hr.cell 1; have r2 := hr.cell 2; have r3 := hr.cell 3; simp at r0 r1 r2 r3; go_simp; with_reducible rfl); (try (try simp only [Act.put, List.setIfInBounds_toArray, List.set_cons_zero, List.set_cons_succ]))))
                (first | (refine Held.skip (i := 4) rfl (by kernel_rfl) (fun _ _ _ h => h) rfl ?_; (try (try simp only [Act.put, List.setIfInBounds_toArray, List.set_cons_zero, List.set_cons_succ]))) | (refine Held.take (i := 4) (v := ?_) rfl (by kernel_rfl) (fun _ _ _ h => h) rfl ?_ ?_; rotate_left; (intro w hS; have hE := hS; have hr := Hx5.out.after hE; have r0 := hr.cell 0; have r1 := hr.cell 1; have r2 := hr.cell 2; have r3 := hr.cell 3; simp at r0 r1 r2 r3; go_simp; with_reducible rfl); (try (try simp only [Act.put, List.setIfInBounds_toArray, List.set_cons_zero, List.set_cons_succ]))))
                (first | (refine Held.skip (i := 5) rfl (by kernel_rfl) (fun _ _ _ h => h) rfl ?_; (try (try simp only [Act.put, List.setIfInBounds_toArray, List.set_cons_zero, List.set_cons_succ]))) | (refine Held.take (i := 5) (v := ?_) rfl (by kernel_rfl) (fun _ _ _ h => h) rfl ?_ ?_; rotate_left; (intro w hS; have hE := hS; have hr := Hx5.out.after hE; have r0 := hr.cell 0; have r1 := hr.cell 1; have r2 := hr.cell 2; have r3 := hr.cell 3; simp at r0 r1 r2 r3; go_simp; with_reducible rfl); (try (try simp only [Act.put, List.setIfInBounds_toArray, List.set_cons_zero, List.set_cons_succ]))))
                refine Held.one (i := 6) (by kernel_rfl) ?_
                · refine HeldOp.step (i := 6) rfl rfl ?_
                  intro wcx hSc
                  have hg6 : we.heap.size ≤ wcx.heap.size := Below.size (hSc)
                  refine ⟨.pointer (some ⟨wcx.heap.size, 0, none⟩), wcx.alloc (.cells #[.int .u64 0, .int .u64 0, .int .u64 0, .int .u64 0] 25), .inl (by go_simp), (fun w' => Ext we w' ∧ Four w' wcx.heap.size), ⟨Below.alloc (hSc) (Below.size (hSc)) _, ⟨_, _, _, _, IsBlk.new _ _ _⟩⟩, fun w h => h.1, ?_⟩
                  generalize wcx.heap.size = g6 at *
                  clear hSc
                  (try simp only [Act.put, List.setIfInBounds_toArray, List.set_cons_zero, List.set_cons_succ])
                  refine Held.one (i := 7) (by kernel_rfl) ?_
                  · refine HeldOp.step (i := 7) rfl rfl ?_
                    intro wcx hSc
                    obtain ⟨c0, c1, c2, c3, hblk⟩ := hSc.2
                    refine ⟨undef, ((((wcx.setCell ⟨g6, 0, none⟩ (.int .u64 (wd N 0 : Nat))).setCell ⟨g6, 1, none⟩ (.int .u64 (wd N 1 : Nat))).setCell ⟨g6, 2, none⟩ (.int .u64 (wd N 2 : Nat))).setCell ⟨g6, 3, none⟩ (.int .u64 (wd N 3 : Nat))), .inr ⟨?_, rfl⟩, (fun w' => Ext we w' ∧ IsBlk w' g6 25 #[.int .u64 (wd N 0 : Nat), .int .u64 (wd N 1 : Nat), .int .u64 (wd N 2 : Nat), .int .u64 (wd N 3 : Nat)]), ⟨bel4 hSc.1 hg6, stored4 hblk⟩, fun w h => ⟨h.1, ⟨_, _, _, _, h.2⟩⟩, ?_⟩
                    · have b0 := hblk.cell 0
                      have b1 := hblk.cell 1
                      have b2 := hblk.cell 2
                      have b3 := hblk.cell 3
                      simp at b0 b1 b2 b3
                      have frb := hblk.free
                      have ltb := hblk.lt
                      go_simp
                    clear hSc hblk
                    (try simp only [Act.put])
                    (first | (refine Held.skip (i := 8) rfl (by kernel_rfl) (fun _ _ _ h => h) rfl ?_; (try (try simp only [Act.put, List.setIfInBounds_toArray, List.set_cons_zero, List.set_cons_succ]))) | (refine Held.take (i := 8) (v := ?_) rfl (by kernel_rfl) (fun _ _ _ h => h) rfl ?_ ?_; rotate_left; (intro w hS; have hE := hS.1; have hr := Hx5.out.after hE; have r0 := hr.cell 0; have r1 := hr.cell 1; have r2 := hr.cell 2; have r3 := hr.cell 3; simp at r0 r1 r2 r3; go_simp; with_reducible rfl); (try (try simp only [Act.put, List.setIfInBounds_toArray, List.set_cons_zero, List.set_cons_succ]))))
                    refine Held.done (by kernel_rfl) ?_
                    intro wz hz
                    go_wp2_with fail
                    go_meet
                    exact ⟨g6, rfl, hg6, hz.1, hz.2⟩
              · refine HeldOp.step (i := 6) rfl rfl ?_
                intro wcx hSc
                have hg6 : we.heap.size ≤ wcx.heap.size := Below.size (hSc)
                refine ⟨.pointer (some ⟨wcx.heap.size, 0, none⟩), wcx.alloc (.cells #[.int .u64 0, .int .u64 0, .int .u64 0, .int .u64 0] 25), .inl (by go_simp), (fun w' => Ext we w' ∧ Four w' wcx.heap.size), ⟨Below.alloc (hSc) (Below.size (hSc)) _, ⟨_, _, _, _, IsBlk.new _ _ _⟩⟩, fun w h => h.1, ?_⟩
                generalize wcx.heap.size = g6 at *
                clear hSc
                (try simp only [Act.put, List.setIfInBounds_toArray, List.set_cons_zero, List.set_cons_succ])
                refine Held.one (i := 2) (by kernel_rfl) ?_
                · refine HeldOp.call (i := 2) (f := ?_) (args := ?_) rfl rfl ?_ ?_
                  rotate_left 2
                  · (intro w hS; go_simp; (first | with_reducible rfl | (refine ⟨?_, ?_⟩ <;> with_reducible rfl)))
                  intro wcx hSc
                  (with_reducible refine (K5.out _).mono ?_)
                  rintro e vc ⟨rfl, hb⟩
                  refine ⟨_, rfl, (fun w' => Ext we w' ∧ Four w' g6), ⟨bel_on hSc.1 hb, hSc.2.on hb⟩, fun w h => h, ?_⟩
                  clear hSc hb
                  (try simp only [Act.put, List.setIfInBounds_toArray, List.set_cons_zero, List.set_cons_succ])
                  (first | (refine Held.skip (i := 3) rfl (by kernel_rfl) (fun _ _ _ h => h) rfl ?_; (try (try simp only [Act.put, List.setIfInBounds_toArray, List.set_cons_zero, List.set_cons_succ]))) | (refine Held.take (i := 3) (v := ?_) rfl (by kernel_rfl) (fun _ _ _ h => h) rfl ?_ ?_; rotate_left; (intro w hS; have hE := hS.1; have hr := Hx5.out.after hE; have r0 := hr.cell 0; have r1 := hr.cell 1; have r2 := hr.cell 2; have r3 := hr.cell 3; simp at r0 r1 r2 r3; go_simp; with_reducible rfl); (try (try simp only [Act.put, List.setIfInBounds_toArray, List.set_cons_zero, List.set_cons_succ]))))
                  (first | (refine Held.skip (i := 4) rfl (by kernel_rfl) (fun _ _ _ h => h) rfl ?_; (try (try simp only [Act.put, List.setIfInBounds_toArray, List.set_cons_zero, List.set_cons_succ]))) | (refine Held.take (i := 4) (v := ?_) rfl (by kernel_rfl) (fun _ _ _ h => h) rfl ?_ ?_; rotate_left; (intro w hS; have hE := hS.1; have hr := Hx5.out.after hE; have r0 := hr.cell 0; have r1 := hr.cell 1; have r2 := hr.cell 2; have r3 := hr.cell 3; simp at r0 r1 r2 r3; go_simp; with_reducible rfl); (try (try simp only [Act.put, List.setIfInBounds_toArray, List.set_cons_zero, List.set_cons_succ]))))
                  (first | (refine Held.skip (i := 5) rfl (by kernel_rfl) (fun _ _ _ h => h) rfl ?_; (try (try simp only [Act.put, List.setIfInBounds_toArray, List.set_cons_zero, List.set_cons_succ]))) | (refine Held.take (i := 5) (v := ?_) rfl (by kernel_rfl) (fun _ _ _ h => h) rfl ?_ ?_; rotate_left; (intro w hS; have hE := hS.1; have hr := Hx5.out.after hE; have r0 := hr.cell 0; have r1 := hr.cell 1; have r2 := hr.cell 2; have r3 := hr.cell 3; simp at r0 r1 r2 r3; go_simp; with_reducible rfl); (try (try simp only [Act.put, List.setIfInBounds_toArray, List.set_cons_zero, List.set_cons_succ]))))
                  refine Held.one (i := 7) (by kernel_rfl) ?_
                  · refine HeldOp.step (i := 7) rfl rfl ?_
                    intro wcx hSc
                    obtain ⟨c0, c1, c2, c3, hblk⟩ := hSc.2
                    refine ⟨undef, ((((wcx.setCell ⟨g6, 0, none⟩ (.int .u64 (wd N 0 : Nat))).setCell ⟨g6, 1, none⟩ (.int .u64 (wd N 1 : Nat))).setCell ⟨g6, 2, none⟩ (.int .u64 (wd N 2 : Nat))).setCell ⟨g6, 3, none⟩ (.int .u64 (wd N 3 : Nat))), .inr ⟨?_, rfl⟩, (fun w' => Ext we w' ∧ IsBlk w' g6 25 #[.int .u64 (wd N 0 : Nat), .int .u64 (wd N 1 : Nat), .int .u64 (wd N 2 : Nat), .int .u64 (wd N 3 : Nat)]), ⟨bel4 hSc.1 hg6, stored4 hblk⟩, fun w h => ⟨h.1, ⟨_, _, _, _, h.2⟩⟩, ?_⟩
                    · have b0 := hblk.cell 0
                      have b1 := hblk.cell 1
                      have b2 := hblk.cell 2
                      have b3 := hblk.cell 3
                      simp at b0 b1 b2 b3
                      have frb := hblk.free
                      have ltb := hblk.lt
                      go_simp
                    clear hSc hblk
                    (try simp only [Act.put])
                    (first | (refine Held.skip (i := 8) rfl (by kernel_rfl) (fun _ _ _ h => h) rfl ?_; (try (try simp only [Act.put, List.setIfInBounds_toArray, List.set_cons_zero, List.set_cons_succ]))) | (refine Held.take (i := 8) (v := ?_) rfl (by kernel_rfl) (fun _ _ _ h => h) rfl ?_ ?_; rotate_left; (intro w hS; have hE := hS.1; have hr := Hx5.out.after hE; have r0 := hr.cell 0; have r1 := hr.cell 1; have r2 := hr.cell 2; have r3 := hr.cell 3; simp at r0 r1 r2 r3; go_simp; with_reducible rfl); (try (try simp only [Act.put, List.setIfInBounds_toArray, List.set_cons_zero, List.set_cons_succ]))))
                    refine Held.done (by kernel_rfl) ?_
                    intro wz hz
                    go_wp2_with fail
                    go_meet
                    exact ⟨g6, rfl, hg6, hz.1, hz.2⟩
            · refine HeldOp.step (i := 6) rfl rfl ?_
              intro wcx hSc
              have hg6 : we.heap.size ≤ wcx.heap.size := Below.size (hSc)
              refine ⟨.pointer (some ⟨wcx.heap.size, 0, none⟩), wcx.alloc (.cells #[.int .u64 0, .int .u64 0, .int .u64 0, .int .u64 0] 25), .inl (by go_simp), (fun w' => Ext we w' ∧ Four w' wcx.heap.size), ⟨Below.alloc (hSc) (Below.size (hSc)) _, ⟨_, _, _, _, IsBlk.new _ _ _⟩⟩, fun w h => h.1, ?_⟩
              generalize wcx.heap.size = g6 at *
              clear hSc
              (try simp only [Act.put, List.setIfInBounds_toArray, List.set_cons_zero, List.set_cons_succ])
              refine Held.one (i := 1) (by kernel_rfl) ?_
              · refine HeldOp.call (i := 1) (f := ?_) (args := ?_) rfl rfl ?_ ?_
                rotate_left 2
                · (intro w hS; go_simp; (first | with_reducible rfl | (refine ⟨?_, ?_⟩ <;> with_reducible rfl)))
                intro wcx hSc
                (with_reducible refine (KO.out _).mono ?_)
                rintro e vc ⟨rfl, hb⟩
                refine ⟨_, rfl, (fun w' => Ext we w' ∧ Four w' g6), ⟨bel_on hSc.1 hb, hSc.2.on hb⟩, fun w h => h, ?_⟩
                clear hSc hb
                (try simp only [Act.put, List.setIfInBounds_toArray, List.set_cons_zero, List.set_cons_succ])
                refine Held.one (i := 2) (by kernel_rfl) ?_
                · refine HeldOp.call (i := 2) (f := ?_) (args := ?_) rfl rfl ?_ ?_
                  rotate_left 2
                  · (intro w hS; go_simp; (first | with_reducible rfl | (refine ⟨?_, ?_⟩ <;> with_reducible rfl)))
                  intro wcx hSc
                  (with_reducible refine (K5.out _).mono ?_)
                  rintro e vc ⟨rfl, hb⟩
                  refine ⟨_, rfl, (fun w' => Ext we w' ∧ Four w' g6), ⟨bel_on hSc.1 hb, hSc.2.on hb⟩, fun w h => h, ?_⟩
                  clear hSc hb
                  (try simp only [Act.put, List.setIfInBounds_toArray, List.set_cons_zero, List.set_cons_succ])
                  (first | (refine Held.skip (i := 3) rfl (by kernel_rfl) (fun _ _ _ h => h) rfl ?_; (try (try simp only [Act.put, List.setIfInBounds_toArray, List.set_cons_zero, List.set_cons_succ]))) | (refine Held.take (i := 3) (v := ?_) rfl (by kernel_rfl) (fun _ _ _ h => h) rfl ?_ ?_; rotate_left; (intro w hS; have hE := hS.1; have hr := Hx5.out.after hE; have r0 := hr.cell 0; have r1 := hr.cell 1; have r2 := hr.cell 2; have r3 := hr.cell 3; simp at r0 r1 r2 r3; go_simp; with_reducible rfl); (try (try simp only [Act.put, List.setIfInBounds_toArray, List.set_cons_zero, List.set_cons_succ]))))
                  (first | (refine Held.skip (i := 4) rfl (by kernel_rfl) (fun _ _ _ h => h) rfl ?_; (try (try simp only [Act.put, List.setIfInBounds_toArray, List.set_cons_zero, List.set_cons_succ]))) | (refine Held.take (i := 4) (v := ?_) rfl (by kernel_rfl) (fun _ _ _ h => h) rfl ?_ ?_; rotate_left; (intro w hS; have hE := hS.1; have hr := Hx5.out.after hE; have r0 := hr.cell 0; have r1 := hr.cell 1; have r2 := hr.cell 2; have r3 := hr.cell 3; simp at r0 r1 r2 r3; go_simp; with_reducible rfl); (try (try simp only [Act.put, List.setIfInBounds_toArray, List.set_cons_zero, List.set_cons_succ]))))
                  (first | (refine Held.skip (i := 5) rfl (by kernel_rfl) (fun _ _ _ h => h) rfl ?_; (try (try simp only [Act.put, List.setIfInBounds_toArray, List.set_cons_zero, List.set_cons_succ]))) | (refine Held.take (i := 5) (v := ?_) rfl (by kernel_rfl) (fun _ _ _ h => h) rfl ?_ ?_; rotate_left; (intro w hS; have hE := hS.1; have hr := Hx5.out.after hE; have r0 := hr.cell 0; have r1 := hr.cell 1; have r2 := hr.cell 2; have r3 := hr.cell 3; simp at r0 r1 r2 r3; go_simp; with_reducible rfl); (try (try simp only [Act.put, List.setIfInBounds_toArray, List.set_cons_zero, List.set_cons_succ]))))
                  refine Held.one (i := 7) (by kernel_rfl) ?_
                  · refine HeldOp.step (i := 7) rfl rfl ?_
                    intro wcx hSc
                    obtain ⟨c0, c1, c2, c3, hblk⟩ := hSc.2
                    refine ⟨undef, ((((wcx.setCell ⟨g6, 0, none⟩ (.int .u64 (wd N 0 : Nat))).setCell ⟨g6, 1, none⟩ (.int .u64 (wd N 1 : Nat))).setCell ⟨g6, 2, none⟩ (.int .u64 (wd N 2 : Nat))).setCell ⟨g6, 3, none⟩ (.int .u64 (wd N 3 : Nat))), .inr ⟨?_, rfl⟩, (fun w' => Ext we w' ∧ IsBlk w' g6 25 #[.int .u64 (wd N 0 : Nat), .int .u64 (wd N 1 : Nat), .int .u64 (wd N 2 : Nat), .int .u64 (wd N 3 : Nat)]), ⟨bel4 hSc.1 hg6, stored4 hblk⟩, fun w h => ⟨h.1, ⟨_, _, _, _, h.2⟩⟩, ?_⟩
                    · have b0 := hblk.cell 0
                      have b1 := hblk.cell 1
                      have b2 := hblk.cell 2
                      have b3 := hblk.cell 3
                      simp at b0 b1 b2 b3
                      have frb := hblk.free
                      have ltb := hblk.lt
                      go_simp
                    clear hSc hblk
                    (try simp only [Act.put])
                    (first | (refine Held.skip (i := 8) rfl (by kernel_rfl) (fun _ _ _ h => h) rfl ?_; (try (try simp only [Act.put, List.setIfInBounds_toArray, List.set_cons_zero, List.set_cons_succ]))) | (refine Held.take (i := 8) (v := ?_) rfl (by kernel_rfl) (fun _ _ _ h => h) rfl ?_ ?_; rotate_left; (intro w hS; have hE := hS.1; have hr := Hx5.out.after hE; have r0 := hr.cell 0; have r1 := hr.cell 1; have r2 := hr.cell 2; have r3 := hr.cell 3; simp at r0 r1 r2 r3; go_simp; with_reducible rfl); (try (try simp only [Act.put, List.setIfInBounds_toArray, List.set_cons_zero, List.set_cons_succ]))))
                    refine Held.done (by kernel_rfl) ?_
                    intro wz hz
                    go_wp2_with fail
                    go_meet
                    exact ⟨g6, rfl, hg6, hz.1, hz.2⟩
          case rest =>
            obtain ⟨gnn, rfl, hgg, hx0, hn0⟩ := hcut
            rename World => wnn
            have Hi6 := Lib.hid (Hi5.out.after hx0)
            have Hh6 := Lib.hid (Hh5.out.after hx0)
            have Hx6 := Lib.hid (Hx5.out.after hx0)
            have Hy6 := Lib.hid (Hy5.out.after hx0)
            have Hv6 := Lib.hid (Hv5.out.after hx0)
            have Hu6 := Lib.hid (Hu5.out.after hx0)
            have HB6 := Lib.hid (bel_on HB5.out hx0)
            clear Hi5 Hh5 Hx5 Hy5 Hv5 Hu5 HB5
            have Hnn := Lib.hid hn0
            clear hx0 hn0 hgg
            go_upto_region 14 with fail
            go_cut [15, 16, 17] (fun s15 s16 s17 wx => ∃ gq gr : Nat, s15 = .pointer (some ⟨gq, 0, none⟩) ∧ s16 = .pointer (some ⟨gr, 0, none⟩) ∧ s17 = .int .i64 0 ∧ wnn.heap.size ≤ gq ∧ Ext wnn wx ∧ IsBlk wx gq 25 #[.int .u64 (wd q 0 : Nat), .int .u64 (wd q 1 : Nat), .int .u64 (wd q 2 : Nat), .int .u64 (wd q 3 : Nat)] ∧ IsBlk wx gr 25 #[.int .u64 (wd r 0 : Nat), .int .u64 (wd r 1 : Nat), .int .u64 (wd r 2 : Nat), .int .u64 (wd r 3 : Nat)])
            case first =>
              refine Held.start 13 (Ext wnn) (by kernel_rfl) rfl (Below.refl _ _).drew ?_
              (first | (refine Held.skip (i := 0) rfl (by kernel_rfl) (fun _ _ _ h => h) rfl ?_; (try (try simp only [Act.put, List.setIfInBounds_toArray, List.set_cons_zero, List.set_cons_succ]))) | (refine Held.take (i := 0) (v := ?_) rfl (by kernel_rfl) (fun _ _ _ h => h) rfl ?_ ?_; rotate_left; (intro w hS; have hE := hS; have hr := Hnn.out.after hE; have r0 := hr.cell 0; have r1 := hr.cell 1; have r2 := hr.cell 2; have r3 := hr.cell 3; simp at r0 r1 r2 r3; go_simp; with_reducible rfl); (try (try simp only [Act.put, List.setIfInBounds_toArray, List.set_cons_zero, List.set_cons_succ]))))
              (first | (refine Held.skip (i := 2) rfl (by kernel_rfl) (fun _ _ _ h => h) rfl ?_; (try (try simp only [Act.put, List.setIfInBounds_toArray, List.set_cons_zero, List.set_cons_succ]))) | (refine Held.take (i := 2) (v := ?_) rfl (by kernel_rfl) (fun _ _ _ h => h) rfl ?_ ?_; rotate_left; (intro w hS; have hE := hS; have hr := Hnn.out.after hE; have r0 := hr.cell 0; have r1 := hr.cell 1; have r2 := hr.cell 2; have r3 := hr.cell 3; simp at r0 r1 r2 r3; go_simp; with_reducible rfl); (try (try simp only [Act.put, List.setIfInBounds_toArray, List.set_cons_zero, List.set_cons_succ]))))
              refine Held.three (i := 1) (j := 8) (k := 9) (by kernel_rfl) ?_ ?_ ?_
              · refine HeldOp.call (i := 1) (f := ?_) (args := ?_) rfl rfl ?_ ?_
                rotate_left 2
                · (intro w hS; go_simp; (first | with_reducible rfl | (refine ⟨?_, ?_⟩ <;> with_reducible rfl)))
                intro wcx hSc
                (with_reducible refine (K6.out _).mono ?_)
                rintro e vc ⟨rfl, hb⟩
                refine ⟨_, rfl, (Ext wnn), bel_on hSc hb, fun w h => h, ?_⟩
                clear hSc hb
                (try simp only [Act.put, List.setIfInBounds_toArray, List.set_cons_zero, List.set_cons_succ])
                refine Held.three (i := 3) (j := 8) (k := 9) (by kernel_rfl) ?_ ?_ ?_
                · refine HeldOp.call (i := 3) (f := ?_) (args := ?_) rfl rfl ?_ ?_
                  rotate_left 2
                  · (intro w hS; go_simp; (first | with_reducible rfl | (refine ⟨?_, ?_⟩ <;> with_reducible rfl)))
                  intro wcx hSc
                  (with_reducible refine (K7.out _).mono ?_)
                  rintro e vc ⟨rfl, hb⟩
                  refine ⟨_, rfl, (Ext wnn), bel_on hSc hb, fun w h => h, ?_⟩
                  clear hSc hb
                  (try simp only [Act.put, List.setIfInBounds_toArray, List.set_cons_zero, List.set_cons_succ])
                  (first | (refine Held.skip (i := 4) rfl (by kernel_rfl) (fun _ _ _ h => h) rfl ?_; (try (try simp only [Act.put, List.setIfInBounds_toArray, List.set_cons_zero, List.set_cons_succ]))) | (refine Held.take (i := 4) (v := ?_) rfl (by kernel_rfl) (fun _ _ _ h => h) rfl ?_ ?_; rotate_left; (intro w hS; have hE := hS; have hr := Hnn.out.after hE; have r0 := hr.cell 0; have r1 := hr.cell 1; have r2 := hr.cell 2; have r3 := hr.cell 3; simp at r0 r1 r2 r3; go_simp; with_reducible rfl); (try (try simp only [Act.put, List.setIfInBounds_toArray, List.set_cons_zero, List.set_cons_succ]))))
                  (first | (refine Held.skip (i := 5) rfl (by kernel_rfl) (fun _ _ _ h => h) rfl ?_; (try (try simp only [Act.put, List.setIfInBounds_toArray, List.set_cons_zero, List.set_cons_succ]))) | (refine Held.take (i := 5) (v := ?_) rfl (by kernel_rfl) (fun _ _ _ h => h) rfl ?_ ?_; rotate_left; (intro w hS; have hE := hS; have hr := Hnn.out.after hE; have r0 := hr.cell 0; have r1 := hr.cell 1; have r2 := hr.cell 2; have r3 := hr.cell 3; simp at r0 r1 r2 r3; go_simp; with_reducible rfl); (try (try simp only [Act.put, List.setIfInBounds_toArray, List.set_cons_zero, List.set_cons_succ]))))
                  (first | (refine Held.skip (i := 6) rfl (by kernel_rfl) (fun _ _ _ h => h) rfl ?_; (try (try simp only [Act.put, List.setIfInBounds_toArray, List.set_cons_zero, List.set_cons_succ]))) | (refine Held.take (i := 6) (v := ?_) rfl (by kernel_rfl) (fun _ _ _ h => h) rfl ?_ ?_; rotate_left; (intro w hS; have hE := hS; have hr := Hnn.out.after hE; have r0 := hr.cell 0; have r1 := hr.cell 1; have r2 := hr.cell 2; have r3 := hr.cell 3; simp at r0 r1 r2 r3; go_simp; with_reducible rfl); (try (try simp only [Act.put, List.setIfInBounds_toArray, List.set_cons_zero, List.set_cons_succ]))))
                  (first | (refine Held.skip (i := 7) rfl (by kernel_rfl) (fun _ _ _ h => h) rfl ?_; (try (try simp only [Act.put, List.setIfInBounds_toArray, List.set_cons_zero, List.set_cons_succ]))) | (refine Held.take (i := 7) (v := ?_) rfl (by kernel_rfl) (fun _ _ _ h => h) rfl ?_ ?_; rotate_left; (intro w hS; have hE := hS; have hr := Hnn.out.after hE; have r0 := hr.cell 0; have r1 := hr.cell 1; have r2 := hr.cell 2; have r3 := hr.cell 3; simp at r0 r1 r2 r3; go_simp; with_reducible rfl); (try (try simp only [Act.put, List.setIfInBounds_toArray, List.set_cons_zero, List.set_cons_succ]))))
                  refine Held.two (i := 8) (j := 9) (by kernel_rfl) ?_ ?_
                  · refine HeldOp.step (i := 8) rfl rfl ?_
                    intro wcx hSc
                    have hg8 : wnn.heap.size ≤ wcx.heap.size := Below.size (hSc)
                    refine ⟨.pointer (some ⟨wcx.heap.size, 0, none⟩), wcx.alloc (.cells #[.int .u64 0, .int .u64 0, .int .u64 0, .int .u64 0] 25), .inl (by go_simp), (fun w' => Ext wnn w' ∧ Four w' wcx.heap.size), ⟨Below.alloc (hSc) (Below.size (hSc)) _, ⟨_, _, _, _, IsBlk.new _ _ _⟩⟩, fun w h => h.1, ?_⟩
                    generalize wcx.heap.size = g8 at *
                    clear hSc
                    (try simp only [Act.put, List.setIfInBounds_toArray, List.set_cons_zero, List.set_cons_succ])
                    refine Held.one (i := 9) (by kernel_rfl) ?_
                    · refine HeldOp.step (i := 9) rfl rfl ?_
                      intro wcx hSc
                      have hg9 : wnn.heap.size ≤ wcx.heap.size := Below.size (hSc.1)
                      have hn9 : g8 < wcx.heap.size := Four.lt (hSc.2)
                      refine ⟨.pointer (some ⟨wcx.heap.size, 0, none⟩), wcx.alloc (.cells #[.int .u64 0, .int .u64 0, .int .u64 0, .int .u64 0] 25), .inl (by go_simp), (fun w' => Ext wnn w' ∧ Four w' g8 ∧ Four w' wcx.heap.size), ⟨Below.alloc (hSc.1) (Below.size (hSc.1)) _, Four.alloc (hSc.2) _, ⟨_, _, _, _, IsBlk.new _ _ _⟩⟩, fun w h => ⟨h.1, h.2.1⟩, ?_⟩
                      generalize wcx.heap.size = g9 at *
                      clear hSc
                      (try simp only [Act.put, List.setIfInBounds_toArray, List.set_cons_zero, List.set_cons_succ])
                      refine Held.one (i := 10) (by kernel_rfl) ?_
                      · refine HeldOp.step (i := 10) rfl rfl ?_
                        intro wcx hSc
                        obtain ⟨c0, c1, c2, c3, hblk⟩ := hSc.2.1
                        refine ⟨undef, ((((wcx.setCell ⟨g8, 0, none⟩ (.int .u64 (wd q 0 : Nat))).setCell ⟨g8, 1, none⟩ (.int .u64 (wd q 1 : Nat))).setCell ⟨g8, 2, none⟩ (.int .u64 (wd q 2 : Nat))).setCell ⟨g8, 3, none⟩ (.int .u64 (wd q 3 : Nat))), .inr ⟨?_, rfl⟩, (fun w' => Ext wnn w' ∧ IsBlk w' g8 25 #[.int .u64 (wd q 0 : Nat), .int .u64 (wd q 1 : Nat), .int .u64 (wd q 2 : Nat), .int .u64 (wd q 3 : Nat)] ∧ Four w' g9), ⟨bel4 hSc.1 hg8, stored4 hblk, Four.far4 (hSc.2.2) (by omega)⟩, fun w h => ⟨h.1, ⟨_, _, _, _, h.2.1⟩, h.2.2⟩, ?_⟩
                        · have b0 := hblk.cell 0
                          have b1 := hblk.cell 1
                          have b2 := hblk.cell 2
                          have b3 := hblk.cell 3
                          simp at b0 b1 b2 b3
                          have frb := hblk.free
                          have ltb := hblk.lt
                          go_simp
                        clear hSc hblk
                        (try simp only [Act.put])
                        refine Held.one (i := 11) (by kernel_rfl) ?_
                        · refine HeldOp.step (i := 11) rfl rfl ?_
                          intro wcx hSc
                          obtain ⟨c0, c1, c2, c3, hblk⟩ := hSc.2.2
                          refine ⟨undef, ((((wcx.setCell ⟨g9, 0, none⟩ (.int .u64 (wd r 0 : Nat))).setCell ⟨g9, 1, none⟩ (.int .u64 (wd r 1 : Nat))).setCell ⟨g9, 2, none⟩ (.int .u64 (wd r 2 : Nat))).setCell ⟨g9, 3, none⟩ (.int .u64 (wd r 3 : Nat))), .inr ⟨?_, rfl⟩, (fun w' => Ext wnn w' ∧ IsBlk w' g8 25 #[.int .u64 (wd q 0 : Nat), .int .u64 (wd q 1 : Nat), .int .u64 (wd q 2 : Nat), .int .u64 (wd q 3 : Nat)] ∧ IsBlk w' g9 25 #[.int .u64 (wd r 0 : Nat), .int .u64 (wd r 1 : Nat), .int .u64 (wd r 2 : Nat), .int .u64 (wd r 3 : Nat)]), ⟨bel4 hSc.1 hg9, far4 (hSc.2.1) (by omega), stored4 hblk⟩, fun w h => ⟨h.1, h.2.1, ⟨_, _, _, _, h.2.2⟩⟩, ?_⟩
                          · have b0 := hblk.cell 0
                            have b1 := hblk.cell 1
                            have b2 := hblk.cell 2
                            have b3 := hblk.cell 3
                            simp at b0 b1 b2 b3
                            have frb := hblk.free
                            have ltb := hblk.lt
                            go_simp
                          clear hSc hblk
                          (try simp only [Act.put])
                          (first | (refine Held.skip (i := 12) rfl (by kernel_rfl) (fun _ _ _ h => h) rfl ?_; (try (try simp only [Act.put, List.setIfInBounds_toArray, List.set_cons_zero, List.set_cons_succ]))) | (refine Held.take (i := 12) (v := ?_) rfl (by kernel_rfl) (fun _ _ _ h => h) rfl ?_ ?_; rotate_left; (intro w hS; have hE := hS.1; have hr := Hnn.out.after hE; have r0 := hr.cell 0; have r1 := hr.cell 1; have r2 := hr.cell 2; have r3 := hr.cell 3; simp at r0 r1 r2 r3; go_simp; with_reducible rfl); (try (try simp only [Act.put, List.setIfInBounds_toArray, List.set_cons_zero, List.set_cons_succ]))))
                          refine Held.done (by kernel_rfl) ?_
                          intro wz hz
                          have hne : g8 ≠ g9 := by omega
                          go_wp2_with fail
                          go_meet
                          exact ⟨g8, g9, rfl, rfl, rfl, hg8, hz.1, hz.2.1, hz.2.2⟩
                  · refine HeldOp.step (i := 9) rfl rfl ?_
                    intro wcx hSc
                    have hg9 : wnn.heap.size ≤ wcx.heap.size := Below.size (hSc)
                    refine ⟨.pointer (some ⟨wcx.heap.size, 0, none⟩), wcx.alloc (.cells #[.int .u64 0, .int .u64 0, .int .u64 0, .int .u64 0] 25), .inl (by go_simp), (fun w' => Ext wnn w' ∧ Four w' wcx.heap.size), ⟨Below.alloc (hSc) (Below.size (hSc)) _, ⟨_, _, _, _, IsBlk.new _ _ _⟩⟩, fun w h => h.1, ?_⟩
                    generalize wcx.heap.size = g9 at *
                    clear hSc
                    (try simp only [Act.put, List.setIfInBounds_toArray, List.set_cons_zero, List.set_cons_succ])
                    refine Held.one (i := 8) (by kernel_rfl) ?_
                    · refine HeldOp.step (i := 8) rfl rfl ?_
                      intro wcx hSc
                      have hg8 : wnn.heap.size ≤ wcx.heap.size := Below.size (hSc.1)
                      have hn8 : g9 < wcx.heap.size := Four.lt (hSc.2)
                      refine ⟨.pointer (some ⟨wcx.heap.size, 0, none⟩), wcx.alloc (.cells #[.int .u64 0, .int .u64 0, .int .u64 0, .int .u64 0] 25), .inl (by go_simp), (fun w' => Ext wnn w' ∧ Four w' wcx.heap.size ∧ Four w' g9), ⟨Below.alloc (hSc.1) (Below.size (hSc.1)) _, ⟨_, _, _, _, IsBlk.new _ _ _⟩, Four.alloc (hSc.2) _⟩, fun w h => ⟨h.1, h.2.2⟩, ?_⟩
                      generalize wcx.heap.size = g8 at *
                      clear hSc
                      (try simp only [Act.put, List.setIfInBounds_toArray, List.set_cons_zero, List.set_cons_succ])
                      refine Held.one (i := 10) (by kernel_rfl) ?_
                      · refine HeldOp.step (i := 10) rfl rfl ?_
                        intro wcx hSc
                        obtain ⟨c0, c1, c2, c3, hblk⟩ := hSc.2.1
                        refine ⟨undef, ((((wcx.setCell ⟨g8, 0, none⟩ (.int .u64 (wd q 0 : Nat))).setCell ⟨g8, 1, none⟩ (.int .u64 (wd q 1 : Nat))).setCell ⟨g8, 2, none⟩ (.int .u64 (wd q 2 : Nat))).setCell ⟨g8, 3, none⟩ (.int .u64 (wd q 3 : Nat))), .inr ⟨?_, rfl⟩, (fun w' => Ext wnn w' ∧ IsBlk w' g8 25 #[.int .u64 (wd q 0 : Nat), .int .u64 (wd q 1 : Nat), .int .u64 (wd q 2 : Nat), .int .u64 (wd q 3 : Nat)] ∧ Four w' g9), ⟨bel4 hSc.1 hg8, stored4 hblk, Four.far4 (hSc.2.2) (by omega)⟩, fun w h => ⟨h.1, ⟨_, _, _, _, h.2.1⟩, h.2.2⟩, ?_⟩
                        · have b0 := hblk.cell 0
                          have b1 := hblk.cell 1
                          have b2 := hblk.cell 2
                          have b3 := hblk.cell 3
                          simp at b0 b1 b2 b3
                          have frb := hblk.free
                          have ltb := hblk.lt
                          go_simp
                        clear hSc hblk
                        (try simp only [Act.put])
                        refine Held.one (i := 11) (by kernel_rfl) ?_
                        · refine HeldOp.step (i := 11) rfl rfl ?_
                          intro wcx hSc
                          obtain ⟨c0, c1, c2, c3, hblk⟩ := hSc.2.2
                          refine ⟨undef, ((((wcx.setCell ⟨g9, 0, none⟩ (.int .u64 (wd r 0 : Nat))).setCell ⟨g9, 1, none⟩ (.int .u64 (wd r 1 : Nat))).setCell ⟨g9, 2, none⟩ (.int .u64 (wd r 2 : Nat))).setCell ⟨g9, 3, none⟩ (.int .u64 (wd r 3 : Nat))), .inr ⟨?_, rfl⟩, (fun w' => Ext wnn w' ∧ IsBlk w' g8 25 #[.int .u64 (wd q 0 : Nat), .int .u64 (wd q 1 : Nat), .int .u64 (wd q 2 : Nat), .int .u64 (wd q 3 : Nat)] ∧ IsBlk w' g9 25 #[.int .u64 (wd r 0 : Nat), .int .u64 (wd r 1 : Nat), .int .u64 (wd r 2 : Nat), .int .u64 (wd r 3 : Nat)]), ⟨bel4 hSc.1 hg9, far4 (hSc.2.1) (by omega), stored4 hblk⟩, fun w h => ⟨h.1, h.2.1, ⟨_, _, _, _, h.2.2⟩⟩, ?_⟩
                          · have b0 := hblk.cell 0
                            have b1 := hblk.cell 1
                            have b2 := hblk.cell 2
                            have b3 := hblk.cell 3
                            simp at b0 b1 b2 b3
                            have frb := hblk.free
                            have ltb := hblk.lt
                            go_simp
                          clear hSc hblk
                          (try simp only [Act.put])
                          (first | (refine Held.skip (i := 12) rfl (by kernel_rfl) (fun _ _ _ h => h) rfl ?_; (try (try simp only [Act.put, List.setIfInBounds_toArray, List.set_cons_zero, List.set_cons_succ]))) | (refine Held.take (i := 12) (v := ?_) rfl (by kernel_rfl) (fun _ _ _ h => h) rfl ?_ ?_; rotate_left; (intro w hS; have hE := hS.1; have hr := Hnn.out.after hE; have r0 := hr.cell 0; have r1 := hr.cell 1; have r2 := hr.cell 2; have r3 := hr.cell 3; simp at r0 r1 r2 r3; go_simp; with_reducible rfl); (try (try simp only [Act.put, List.setIfInBounds_toArray, List.set_cons_zero, List.set_cons_succ]))))
                          refine Held.done (by kernel_rfl) ?_
                          intro wz hz
                          have hne : g8 ≠ g9 := by omega
                          go_wp2_with fail
                          go_meet
                          exact ⟨g8, g9, rfl, rfl, rfl, hg8, hz.1, hz.2.1, hz.2.2⟩
                · refine HeldOp.step (i := 8) rfl rfl ?_
                  intro wcx hSc
                  have hg8 : wnn.heap.size ≤ wcx.heap.size := Below.size (hSc)
                  refine ⟨.pointer (some ⟨wcx.heap.size, 0, none⟩), wcx.alloc (.cells #[.int .u64 0, .int .u64 0, .int .u64 0, .int .u64 0] 25), .inl (by go_simp), (fun w' => Ext wnn w' ∧ Four w' wcx.heap.size), ⟨Below.alloc (hSc) (Below.size (hSc)) _, ⟨_, _, _, _, IsBlk.new _ _ _⟩⟩, fun w h => h.1, ?_⟩
                  generalize wcx.heap.size = g8 at *
                  clear hSc
                  (try simp only [Act.put, List.setIfInBounds_toArray, List.set_cons_zero, List.set_cons_succ])
                  refine Held.two (i := 3) (j := 9) (by kernel_rfl) ?_ ?_
                  · refine HeldOp.call (i := 3) (f := ?_) (args := ?_) rfl rfl ?_ ?_
                    rotate_left 2
                    · (intro w hS; go_simp; (first | with_reducible rfl | (refine ⟨?_, ?_⟩ <;> with_reducible rfl)))
                    intro wcx hSc
                    (with_reducible refine (K7.out _).mono ?_)
                    rintro e vc ⟨rfl, hb⟩
                    refine ⟨_, rfl, (fun w' => Ext wnn w' ∧ Four w' g8), ⟨bel_on hSc.1 hb, hSc.2.on hb⟩, fun w h => h, ?_⟩
                    clear hSc hb
                    (try simp only [Act.put, List.setIfInBounds_toArray, List.set_cons_zero, List.set_cons_succ])
                    (first | (refine Held.skip (i := 4) rfl (by kernel_rfl) (fun _ _ _ h => h) rfl ?_; (try (try simp only [Act.put, List.setIfInBounds_toArray, List.set_cons_zero, List.set_cons_succ]))) | (refine Held.take (i := 4) (v := ?_) rfl (by kernel_rfl) (fun _ _ _ h => h) rfl ?_ ?_; rotate_left; (intro w hS; have hE := hS.1; have hr := Hnn.out.after hE; have r0 := hr.cell 0; have r1 := hr.cell 1; have r2 := hr.cell 2; have r3 := hr.cell 3; simp at r0 r1 r2 r3; go_simp; with_reducible rfl); (try (try simp only [Act.put, List.setIfInBounds_toArray, List.set_cons_zero, List.set_cons_succ]))))
                    (first | (refine Held.skip (i := 5) rfl (by kernel_rfl) (fun _ _ _ h => h) rfl ?_; (try (try simp only [Act.put, List.setIfInBounds_toArray, List.set_cons_zero, List.set_cons_succ]))) | (refine Held.take (i := 5) (v := ?_) rfl (by kernel_rfl) (fun _ _ _ h => h) rfl ?_ ?_; rotate_left; (intro w hS; have hE := hS.1; have hr := Hnn.out.after hE; have r0 := hr.cell 0; have r1 := hr.cell 1; have r2 := hr.cell 2; have r3 := hr.cell 3; simp at r0 r1 r2 r3; go_simp; with_reducible rfl); (try (try simp only [Act.put, List.setIfInBounds_toArray, List.set_cons_zero, List.set_cons_succ]))))
                    (first | (refine Held.skip (i := 6) rfl (by kernel_rfl) (fun _ _ _ h => h) rfl ?_; (try (try simp only [Act.put, List.setIfInBounds_toArray, List.set_cons_zero, List.set_cons_succ]))) | (refine Held.take (i := 6) (v := ?_) rfl (by kernel_rfl) (fun _ _ _ h => h) rfl ?_ ?_; rotate_left; (intro w hS; have hE := hS.1; have hr := Hnn.out.after hE; have r0 := hr.cell 0; have r1 := hr.cell 1; have r2 := hr.cell 2; have r3 := hr.cell 3; simp at r0 r1 r2 r3; go_simp; with_reducible rfl); (try (try simp only [Act.put, List.setIfInBounds_toArray, List.set_cons_zero, List.set_cons_succ]))))
                    (first | (refine Held.skip (i := 7) rfl (by kernel_rfl) (fun _ _ _ h => h) rfl ?_; (try (try simp only [Act.put, List.setIfInBounds_toArray, List.set_cons_zero, List.set_cons_succ]))) | (refine Held.take (i := 7) (v := ?_) rfl (by kernel_rfl) (fun _ _ _ h => h) rfl ?_ ?_; rotate_left; (intro w hS; have hE := hS.1; have hr := Hnn.out.after hE; have r0 := hr.cell 0; have r1 := hr.cell 1; have r2 := hr.cell 2; have r3 := hr.cell 3; simp at r0 r1 r2 r3; go_simp; with_reducible rfl); (try (try simp only [Act.put, List.setIfInBounds_toArray, List.set_cons_zero, List.set_cons_succ]))))
                    refine Held.one (i := 9) (by kernel_rfl) ?_
                    · refine HeldOp.step (i := 9) rfl rfl ?_
                      intro wcx hSc
                      have hg9 : wnn.heap.size ≤ wcx.heap.size := Below.size (hSc.1)
                      have hn9 : g8 < wcx.heap.size := Four.lt (hSc.2)
                      refine ⟨.pointer (some ⟨wcx.heap.size, 0, none⟩), wcx.alloc (.cells #[.int .u64 0, .int .u64 0, .int .u64 0, .int .u64 0] 25), .inl (by go_simp), (fun w' => Ext wnn w' ∧ Four w' g8 ∧ Four w' wcx.heap.size), ⟨Below.alloc (hSc.1) (Below.size (hSc.1)) _, Four.alloc (hSc.2) _, ⟨_, _, _, _, IsBlk.new _ _ _⟩⟩, fun w h => ⟨h.1, h.2.1⟩, ?_⟩
                      generalize wcx.heap.size = g9 at *
                      clear hSc
                      (try simp only [Act.put, List.setIfInBounds_toArray, List.set_cons_zero, List.set_cons_succ])
                      refine Held.one (i := 10) (by kernel_rfl) ?_
                      · refine HeldOp.step (i := 10) rfl rfl ?_
                        intro wcx hSc
                        obtain ⟨c0, c1, c2, c3, hblk⟩ := hSc.2.1
                        refine ⟨undef, ((((wcx.setCell ⟨g8, 0, none⟩ (.int .u64 (wd q 0 : Nat))).setCell ⟨g8, 1, none⟩ (.int .u64 (wd q 1 : Nat))).setCell ⟨g8, 2, none⟩ (.int .u64 (wd q 2 : Nat))).setCell ⟨g8, 3, none⟩ (.int .u64 (wd q 3 : Nat))), .inr ⟨?_, rfl⟩, (fun w' => Ext wnn w' ∧ IsBlk w' g8 25 #[.int .u64 (wd q 0 : Nat), .int .u64 (wd q 1 : Nat), .int .u64 (wd q 2 : Nat), .int .u64 (wd q 3 : Nat)] ∧ Four w' g9), ⟨bel4 hSc.1 hg8, stored4 hblk, Four.far4 (hSc.2.2) (by omega)⟩, fun w h => ⟨h.1, ⟨_, _, _, _, h.2.1⟩, h.2.2⟩, ?_⟩
                        · have b0 := hblk.cell 0
                          have b1 := hblk.cell 1
                          have b2 := hblk.cell 2
                          have b3 := hblk.cell 3
                          simp at b0 b1 b2 b3
                          have frb := hblk.free
                          have ltb := hblk.lt
                          go_simp
                        clear hSc hblk
                        (try simp only [Act.put])
                        refine Held.one (i := 11) (by kernel_rfl) ?_
                        · refine HeldOp.step (i := 11) rfl rfl ?_
                          intro wcx hSc
                          obtain ⟨c0, c1, c2, c3, hblk⟩ := hSc.2.2
                          refine ⟨undef, ((((wcx.setCell ⟨g9, 0, none⟩ (.int .u64 (wd r 0 : Nat))).setCell ⟨g9, 1, none⟩ (.int .u64 (wd r 1 : Nat))).setCell ⟨g9, 2, none⟩ (.int .u64 (wd r 2 : Nat))).setCell ⟨g9, 3, none⟩ (.int .u64 (wd r 3 : Nat))), .inr ⟨?_, rfl⟩, (fun w' => Ext wnn w' ∧ IsBlk w' g8 25 #[.int .u64 (wd q 0 : Nat), .int .u64 (wd q 1 : Nat), .int .u64 (wd q 2 : Nat), .int .u64 (wd q 3 : Nat)] ∧ IsBlk w' g9 25 #[.int .u64 (wd r 0 : Nat), .int .u64 (wd r 1 : Nat), .int .u64 (wd r 2 : Nat), .int .u64 (wd r 3 : Nat)]), ⟨bel4 hSc.1 hg9, far4 (hSc.2.1) (by omega), stored4 hblk⟩, fun w h => ⟨h.1, h.2.1, ⟨_, _, _, _, h.2.2⟩⟩, ?_⟩
                          · have b0 := hblk.cell 0
                            have b1 := hblk.cell 1
                            have b2 := hblk.cell 2
                            have b3 := hblk.cell 3
                            simp at b0 b1 b2 b3
                            have frb := hblk.free
                            have ltb := hblk.lt
                            go_simp
                          clear hSc hblk
                          (try simp only [Act.put])
                          (first | (refine Held.skip (i := 12) rfl (by kernel_rfl) (fun _ _ _ h => h) rfl ?_; (try (try simp only [Act.put, List.setIfInBounds_toArray, List.set_cons_zero, List.set_cons_succ]))) | (refine Held.take (i := 12) (v := ?_) rfl (by kernel_rfl) (fun _ _ _ h => h) rfl ?_ ?_; rotate_left; (intro w hS; have hE := hS.1; have hr := Hnn.out.after hE; have r0 := hr.cell 0; have r1 := hr.cell 1; have r2 := hr.cell 2; have r3 := hr.cell 3; simp at r0 r1 r2 r3; go_simp; with_reducible rfl); (try (try simp only [Act.put, List.setIfInBounds_toArray, List.set_cons_zero, List.set_cons_succ]))))
                          refine Held.done (by kernel_rfl) ?_
                          intro wz hz
                          have hne : g8 ≠ g9 := by omega
                          go_wp2_with fail
                          go_meet
                          exact ⟨g8, g9, rfl, rfl, rfl, hg8, hz.1, hz.2.1, hz.2.2⟩
                  · refine HeldOp.step (i := 9) rfl rfl ?_
                    intro wcx hSc
                    have hg9 : wnn.heap.size ≤ wcx.heap.size := Below.size (hSc.1)
                    have hn9 : g8 < wcx.heap.size := Four.lt (hSc.2)
                    refine ⟨.pointer (some ⟨wcx.heap.size, 0, none⟩), wcx.alloc (.cells #[.int .u64 0, .int .u64 0, .int .u64 0, .int .u64 0] 25), .inl (by go_simp), (fun w' => Ext wnn w' ∧ Four w' g8 ∧ Four w' wcx.heap.size), ⟨Below.alloc (hSc.1) (Below.size (hSc.1)) _, Four.alloc (hSc.2) _, ⟨_, _, _, _, IsBlk.new _ _ _⟩⟩, fun w h => ⟨h.1, h.2.1⟩, ?_⟩
                    generalize wcx.heap.size = g9 at *
                    clear hSc
                    (try simp only [Act.put, List.setIfInBounds_toArray, List.set_cons_zero, List.set_cons_succ])
                    refine Held.one (i := 3) (by kernel_rfl) ?_
                    · refine HeldOp.call (i := 3) (f := ?_) (args := ?_) rfl rfl ?_ ?_
                      rotate_left 2
                      · (intro w hS; go_simp; (first | with_reducible rfl | (refine ⟨?_, ?_⟩ <;> with_reducible rfl)))
                      intro wcx hSc
                      (with_reducible refine (K7.out _).mono ?_)
                      rintro e vc ⟨rfl, hb⟩
                      refine ⟨_, rfl, (fun w' => Ext wnn w' ∧ Four w' g8 ∧ Four w' g9), ⟨bel_on hSc.1 hb, hSc.2.1.on hb, hSc.2.2.on hb⟩, fun w h => h, ?_⟩
                      clear hSc hb
                      (try simp only [Act.put, List.setIfInBounds_toArray, List.set_cons_zero, List.set_cons_succ])
                      (first | (refine Held.skip (i := 4) rfl (by kernel_rfl) (fun _ _ _ h => h) rfl ?_; (try (try simp only [Act.put, List.setIfInBounds_toArray, List.set_cons_zero, List.set_cons_succ]))) | (refine Held.take (i := 4) (v := ?_) rfl (by kernel_rfl) (fun _ _ _ h => h) rfl ?_ ?_; rotate_left; (intro w hS; have hE := hS.1; have hr := Hnn.out.after hE; have r0 := hr.cell 0; have r1 := hr.cell 1; have r2 := hr.cell 2; have r3 := hr.cell 3; simp at r0 r1 r2 r3; go_simp; with_reducible rfl); (try (try simp only [Act.put, List.setIfInBounds_toArray, List.set_cons_zero, List.set_cons_succ]))))
                      (first | (refine Held.skip (i := 5) rfl (by kernel_rfl) (fun _ _ _ h => h) rfl ?_; (try (try simp only [Act.put, List.setIfInBounds_toArray, List.set_cons_zero, List.set_cons_succ]))) | (refine Held.take (i := 5) (v := ?_) rfl (by kernel_rfl) (fun _ _ _ h => h) rfl ?_ ?_; rotate_left; (intro w hS; have hE := hS.1; have hr := Hnn.out.after hE; have r0 := hr.cell 0; have r1 := hr.cell 1; have r2 := hr.cell 2; have r3 := hr.cell 3; simp at r0 r1 r2 r3; go_simp; with_reducible rfl); (try (try simp only [Act.put, List.setIfInBounds_toArray, List.set_cons_zero, List.set_cons_succ]))))
                      (first | (refine Held.skip (i := 6) rfl (by kernel_rfl) (fun _ _ _ h => h) rfl ?_; (try (try simp only [Act.put, List.setIfInBounds_toArray, List.set_cons_zero, List.set_cons_succ]))) | (refine Held.take (i := 6) (v := ?_) rfl (by kernel_rfl) (fun _ _ _ h => h) rfl ?_ ?_; rotate_left; (intro w hS; have hE := hS.1; have hr := Hnn.out.after hE; have r0 := hr.cell 0; have r1 := hr.cell 1; have r2 := hr.cell 2; have r3 := hr.cell 3; simp at r0 r1 r2 r3; go_simp; with_reducible rfl); (try (try simp only [Act.put, List.setIfInBounds_toArray, List.set_cons_zero, List.set_cons_succ]))))
                      (first | (refine Held.skip (i := 7) rfl (by kernel_rfl) (fun _ _ _ h => h) rfl ?_; (try (try simp only [Act.put, List.setIfInBounds_toArray, List.set_cons_zero, List.set_cons_succ]))) | (refine Held.take (i := 7) (v := ?_) rfl (by kernel_rfl) (fun _ _ _ h => h) rfl ?_ ?_; rotate_left; (intro w hS; have hE := hS.1; have hr := Hnn.out.after hE; have r0 := hr.cell 0; have r1 := hr.cell 1; have r2 := hr.cell 2; have r3 := hr.cell 3; simp at r0 r1 r2 r3; go_simp; with_reducible rfl); (try (try simp only [Act.put, List.setIfInBounds_toArray, List.set_cons_zero, List.set_cons_succ]))))
                      refine Held.one (i := 10) (by kernel_rfl) ?_
                      · refine HeldOp.step (i := 10) rfl rfl ?_
                        intro wcx hSc
                        obtain ⟨c0, c1, c2, c3, hblk⟩ := hSc.2.1
                        refine ⟨undef, ((((wcx.setCell ⟨g8, 0, none⟩ (.int .u64 (wd q 0 : Nat))).setCell ⟨g8, 1, none⟩ (.int .u64 (wd q 1 : Nat))).setCell ⟨g8, 2, none⟩ (.int .u64 (wd q 2 : Nat))).setCell ⟨g8, 3, none⟩ (.int .u64 (wd q 3 : Nat))), .inr ⟨?_, rfl⟩, (fun w' => Ext wnn w' ∧ IsBlk w' g8 25 #[.int .u64 (wd q 0 : Nat), .int .u64 (wd q 1 : Nat), .int .u64 (wd q 2 : Nat), .int .u64 (wd q 3 : Nat)] ∧ Four w' g9), ⟨bel4 hSc.1 hg8, stored4 hblk, Four.far4 (hSc.2.2) (by omega)⟩, fun w h => ⟨h.1, ⟨_, _, _, _, h.2.1⟩, h.2.2⟩, ?_⟩
                        · have b0 := hblk.cell 0
                          have b1 := hblk.cell 1
                          have b2 := hblk.cell 2
                          have b3 := hblk.cell 3
                          simp at b0 b1 b2 b3
                          have frb := hblk.free
                          have ltb := hblk.lt
                          go_simp
                        clear hSc hblk
                        (try simp only [Act.put])
                        refine Held.one (i := 11) (by kernel_rfl) ?_
                        · refine HeldOp.step (i := 11) rfl rfl ?_
                          intro wcx hSc
                          obtain ⟨c0, c1, c2, c3, hblk⟩ := hSc.2.2
                          refine ⟨undef, ((((wcx.setCell ⟨g9, 0, none⟩ (.int .u64 (wd r 0 : Nat))).setCell ⟨g9, 1, none⟩ (.int .u64 (wd r 1 : Nat))).setCell ⟨g9, 2, none⟩ (.int .u64 (wd r 2 : Nat))).setCell ⟨g9, 3, none⟩ (.int .u64 (wd r 3 : Nat))), .inr ⟨?_, rfl⟩, (fun w' => Ext wnn w' ∧ IsBlk w' g8 25 #[.int .u64 (wd q 0 : Nat), .int .u64 (wd q 1 : Nat), .int .u64 (wd q 2 : Nat), .int .u64 (wd q 3 : Nat)] ∧ IsBlk w' g9 25 #[.int .u64 (wd r 0 : Nat), .int .u64 (wd r 1 : Nat), .int .u64 (wd r 2 : Nat), .int .u64 (wd r 3 : Nat)]), ⟨bel4 hSc.1 hg9, far4 (hSc.2.1) (by omega), stored4 hblk⟩, fun w h => ⟨h.1, h.2.1, ⟨_, _, _, _, h.2.2⟩⟩, ?_⟩
                          · have b0 := hblk.cell 0
                            have b1 := hblk.cell 1
                            have b2 := hblk.cell 2
                            have b3 := hblk.cell 3
                            simp at b0 b1 b2 b3
                            have frb := hblk.free
                            have ltb := hblk.lt
                            go_simp
                          clear hSc hblk
                          (try simp only [Act.put])
                          (first | (refine Held.skip (i := 12) rfl (by kernel_rfl) (fun _ _ _ h => h) rfl ?_; (try (try simp only [Act.put, List.setIfInBounds_toArray, List.set_cons_zero, List.set_cons_succ]))) | (refine Held.take (i := 12) (v := ?_) rfl (by kernel_rfl) (fun _ _ _ h => h) rfl ?_ ?_; rotate_left; (intro w hS; have hE := hS.1; have hr := Hnn.out.after hE; have r0 := hr.cell 0; have r1 := hr.cell 1; have r2 := hr.cell 2; have r3 := hr.cell 3; simp at r0 r1 r2 r3; go_simp; with_reducible rfl); (try (try simp only [Act.put, List.setIfInBounds_toArray, List.set_cons_zero, List.set_cons_succ]))))
                          refine Held.done (by kernel_rfl) ?_
                          intro wz hz
                          have hne : g8 ≠ g9 := by omega
                          go_wp2_with fail
                          go_meet
                          exact ⟨g8, g9, rfl, rfl, rfl, hg8, hz.1, hz.2.1, hz.2.2⟩
                · refine HeldOp.step (i := 9) rfl rfl ?_
                  intro wcx hSc
                  have hg9 : wnn.heap.size ≤ wcx.heap.size := Below.size (hSc)
                  refine ⟨.pointer (some ⟨wcx.heap.size, 0, none⟩), wcx.alloc (.cells #[.int .u64 0, .int .u64 0, .int .u64 0, .int .u64 0] 25), .inl (by go_simp), (fun w' => Ext wnn w' ∧ Four w' wcx.heap.size), ⟨Below.alloc (hSc) (Below.size (hSc)) _, ⟨_, _, _, _, IsBlk.new _ _ _⟩⟩, fun w h => h.1, ?_⟩
                  generalize wcx.heap.size = g9 at *
                  clear hSc
                  (try simp only [Act.put, List.setIfInBounds_toArray, List.set_cons_zero, List.set_cons_succ])
                  refine Held.two (i := 3) (j := 8) (by kernel_rfl) ?_ ?_
                  · refine HeldOp.call (i := 3) (f := ?_) (args := ?_) rfl rfl ?_ ?_
                    rotate_left 2
                    · (intro w hS; go_simp; (first | with_reducible rfl | (refine ⟨?_, ?_⟩ <;> with_reducible rfl)))
                    intro wcx hSc
                    (with_reducible refine (K7.out _).mono ?_)
                    rintro e vc ⟨rfl, hb⟩
                    refine ⟨_, rfl, (fun w' => Ext wnn w' ∧ Four w' g9), ⟨bel_on hSc.1 hb, hSc.2.on hb⟩, fun w h => h, ?_⟩
                    clear hSc hb
                    (try simp only [Act.put, List.setIfInBounds_toArray, List.set_cons_zero, List.set_cons_succ])
                    (first | (refine Held.skip (i := 4) rfl (by kernel_rfl) (fun _ _ _ h => h) rfl ?_; (try (try simp only [Act.put, List.setIfInBounds_toArray, List.set_cons_zero, List.set_cons_succ]))) | (refine Held.take (i := 4) (v := ?_) rfl (by kernel_rfl) (fun _ _ _ h => h) rfl ?_ ?_; rotate_left; (intro w hS; have hE := hS.1; have hr := Hnn.out.after hE; have r0 := hr.cell 0; have r1 := hr.cell 1; have r2 := hr.cell 2; have r3 := hr.cell 3; simp at r0 r1 r2 r3; go_simp; with_reducible rfl); (try (try simp only [Act.put, List.setIfInBounds_toArray, List.set_cons_zero, List.set_cons_succ]))))
                    (first | (refine Held.skip (i := 5) rfl (by kernel_rfl) (fun _ _ _ h => h) rfl ?_; (try (try simp only [Act.put, List.setIfInBounds_toArray, List.set_cons_zero, List.set_cons_succ]))) | (refine Held.take (i := 5) (v := ?_) rfl (by kernel_rfl) (fun _ _ _ h => h) rfl ?_ ?_; rotate_left; (intro w hS; have hE := hS.1; have hr := Hnn.out.after hE; have r0 := hr.cell 0; have r1 := hr.cell 1; have r2 := hr.cell 2; have r3 := hr.cell 3; simp at r0 r1 r2 r3; go_simp; with_reducible rfl); (try (try simp only [Act.put, List.setIfInBounds_toArray, List.set_cons_zero, List.set_cons_succ]))))
                    (first | (refine Held.skip (i := 6) rfl (by kernel_rfl) (fun _ _ _ h => h) rfl ?_; (try (try simp only [Act.put, List.setIfInBounds_toArray, List.set_cons_zero, List.set_cons_succ]))) | (refine Held.take (i := 6) (v := ?_) rfl (by kernel_rfl) (fun _ _ _ h => h) rfl ?_ ?_; rotate_left; (intro w hS; have hE := hS.1; have hr := Hnn.out.after hE; have r0 := hr.cell 0; have r1 := hr.cell 1; have r2 := hr.cell 2; have r3 := hr.cell 3; simp at r0 r1 r2 r3; go_simp; with_reducible rfl); (try (try simp only [Act.put, List.setIfInBounds_toArray, List.set_cons_zero, List.set_cons_succ]))))
                    (first | (refine Held.skip (i := 7) rfl (by kernel_rfl) (fun _ _ _ h => h) rfl ?_; (try (try simp only [Act.put, List.setIfInBounds_toArray, List.set_cons_zero, List.set_cons_succ]))) | (refine Held.take (i := 7) (v := ?_) rfl (by kernel_rfl) (fun _ _ _ h => h) rfl ?_ ?_; rotate_left; (intro w hS; have hE := hS.1; have hr := Hnn.out.after hE; have r0 := hr.cell 0; have r1 := hr.cell 1; have r2 := hr.cell 2; have r3 := hr.cell 3; simp at r0 r1 r2 r3; go_simp; with_reducible rfl); (try (try simp only [Act.put, List.setIfInBounds_toArray, List.set_cons_zero, List.set_cons_succ]))))
                    refine Held.one (i := 8) (by kernel_rfl) ?_
                    · refine HeldOp.step (i := 8) rfl rfl ?_
                      intro wcx hSc
                      have hg8 : wnn.heap.size ≤ wcx.heap.size := Below.size (hSc.1)
                      have hn8 : g9 < wcx.heap.size := Four.lt (hSc.2)
                      refine ⟨.pointer (some ⟨wcx.heap.size, 0, none⟩), wcx.alloc (.cells #[.int .u64 0, .int .u64 0, .int .u64 0, .int .u64 0] 25), .inl (by go_simp), (fun w' => Ext wnn w' ∧ Four w' wcx.heap.size ∧ Four w' g9), ⟨Below.alloc (hSc.1) (Below.size (hSc.1)) _, ⟨_, _, _, _, IsBlk.new _ _ _⟩, Four.alloc (hSc.2) _⟩, fun w h => ⟨h.1, h.2.2⟩, ?_⟩
                      generalize wcx.heap.size = g8 at *
                      clear hSc
                      (try simp only [Act.put, List.setIfInBounds_toArray, List.set_cons_zero, List.set_cons_succ])
                      refine Held.one (i := 10) (by kernel_rfl) ?_
                      · refine HeldOp.step (i := 10) rfl rfl ?_
                        intro wcx hSc
                        obtain ⟨c0, c1, c2, c3, hblk⟩ := hSc.2.1
                        refine ⟨undef, ((((wcx.setCell ⟨g8, 0, none⟩ (.int .u64 (wd q 0 : Nat))).setCell ⟨g8, 1, none⟩ (.int .u64 (wd q 1 : Nat))).setCell ⟨g8, 2, none⟩ (.int .u64 (wd q 2 : Nat))).setCell ⟨g8, 3, none⟩ (.int .u64 (wd q 3 : Nat))), .inr ⟨?_, rfl⟩, (fun w' => Ext wnn w' ∧ IsBlk w' g8 25 #[.int .u64 (wd q 0 : Nat), .int .u64 (wd q 1 : Nat), .int .u64 (wd q 2 : Nat), .int .u64 (wd q 3 : Nat)] ∧ Four w' g9), ⟨bel4 hSc.1 hg8, stored4 hblk, Four.far4 (hSc.2.2) (by omega)⟩, fun w h => ⟨h.1, ⟨_, _, _, _, h.2.1⟩, h.2.2⟩, ?_⟩
                        · have b0 := hblk.cell 0
                          have b1 := hblk.cell 1
                          have b2 := hblk.cell 2
                          have b3 := hblk.cell 3
                          simp at b0 b1 b2 b3
                          have frb := hblk.free
                          have ltb := hblk.lt
                          go_simp
                        clear hSc hblk
                        (try simp only [Act.put])
                        refine Held.one (i := 11) (by kernel_rfl) ?_
                        · refine HeldOp.step (i := 11) rfl rfl ?_
                          intro wcx hSc
                          obtain ⟨c0, c1, c2, c3, hblk⟩ := hSc.2.2
                          refine ⟨undef, ((((wcx.setCell ⟨g9, 0, none⟩ (.int .u64 (wd r 0 : Nat))).setCell ⟨g9, 1, none⟩ (.int .u64 (wd r 1 : Nat))).setCell ⟨g9, 2, none⟩ (.int .u64 (wd r 2 : Nat))).setCell ⟨g9, 3, none⟩ (.int .u64 (wd r 3 : Nat))), .inr ⟨?_, rfl⟩, (fun w' => Ext wnn w' ∧ IsBlk w' g8 25 #[.int .u64 (wd q 0 : Nat), .int .u64 (wd q 1 : Nat), .int .u64 (wd q 2 : Nat), .int .u64 (wd q 3 : Nat)] ∧ IsBlk w' g9 25 #[.int .u64 (wd r 0 : Nat), .int .u64 (wd r 1 : Nat), .int .u64 (wd r 2 : Nat), .int .u64 (wd r 3 : Nat)]), ⟨bel4 hSc.1 hg9, far4 (hSc.2.1) (by omega), stored4 hblk⟩, fun w h => ⟨h.1, h.2.1, ⟨_, _, _, _, h.2.2⟩⟩, ?_⟩
                          · have b0 := hblk.cell 0
                            have b1 := hblk.cell 1
                            have b2 := hblk.cell 2
                            have b3 := hblk.cell 3
                            simp at b0 b1 b2 b3
                            have frb := hblk.free
                            have ltb := hblk.lt
                            go_simp
                          clear hSc hblk
                          (try simp only [Act.put])
                          (first | (refine Held.skip (i := 12) rfl (by kernel_rfl) (fun _ _ _ h => h) rfl ?_; (try (try simp only [Act.put, List.setIfInBounds_toArray, List.set_cons_zero, List.set_cons_succ]))) | (refine Held.take (i := 12) (v := ?_) rfl (by kernel_rfl) (fun _ _ _ h => h) rfl ?_ ?_; rotate_left; (intro w hS; have hE := hS.1; have hr := Hnn.out.after hE; have r0 := hr.cell 0; have r1 := hr.cell 1; have r2 := hr.cell 2; have r3 := hr.cell 3; simp at r0 r1 r2 r3; go_simp; with_reducible rfl); (try (try simp only [Act.put, List.setIfInBounds_toArray, List.set_cons_zero, List.set_cons_succ]))))
                          refine Held.done (by kernel_rfl) ?_
                          intro wz hz
                          have hne : g8 ≠ g9 := by omega
                          go_wp2_with fail
                          go_meet
                          exact ⟨g8, g9, rfl, rfl, rfl, hg8, hz.1, hz.2.1, hz.2.2⟩
                  · refine HeldOp.step (i := 8) rfl rfl ?_
                    intro wcx hSc
                    have hg8 : wnn.heap.size ≤ wcx.heap.size := Below.size (hSc.1)
                    have hn8 : g9 < wcx.heap.size := Four.lt (hSc.2)
                    refine ⟨.pointer (some ⟨wcx.heap.size, 0, none⟩), wcx.alloc (.cells #[.int .u64 0, .int .u64 0, .int .u64 0, .int .u64 0] 25), .inl (by go_simp), (fun w' => Ext wnn w' ∧ Four w' wcx.heap.size ∧ Four w' g9), ⟨Below.alloc (hSc.1) (Below.size (hSc.1)) _, ⟨_, _, _, _, IsBlk.new _ _ _⟩, Four.alloc (hSc.2) _⟩, fun w h => ⟨h.1, h.2.2⟩, ?_⟩
                    generalize wcx.heap.size = g8 at *
                    clear hSc
                    (try simp only [Act.put, List.setIfInBounds_toArray, List.set_cons_zero, List.set_cons_succ])
                    refine Held.one (i := 3) (by kernel_rfl) ?_
                    · refine HeldOp.call (i := 3) (f := ?_) (args := ?_) rfl rfl ?_ ?_
                      rotate_left 2
                      · (intro w hS; go_simp; (first | with_reducible rfl | (refine ⟨?_, ?_⟩ <;> with_reducible rfl)))
                      intro wcx hSc
                      (with_reducible refine (K7.out _).mono ?_)
                      rintro e vc ⟨rfl, hb⟩
                      refine ⟨_, rfl, (fun w' => Ext wnn w' ∧ Four w' g8 ∧ Four w' g9), ⟨bel_on hSc.1 hb, hSc.2.1.on hb, hSc.2.2.on hb⟩, fun w h => h, ?_⟩
                      clear hSc hb
                      (try simp only [Act.put, List.setIfInBounds_toArray, List.set_cons_zero, List.set_cons_succ])
                      (first | (refine Held.skip (i := 4) rfl (by kernel_rfl) (fun _ _ _ h => h) rfl ?_; (try (try simp only [Act.put, List.setIfInBounds_toArray, List.set_cons_zero, List.set_cons_succ]))) | (refine Held.take (i := 4) (v := ?_) rfl (by kernel_rfl) (fun _ _ _ h => h) rfl ?_ ?_; rotate_left; (intro w hS; have hE := hS.1; have hr := Hnn.out.after hE; have r0 := hr.cell 0; have r1 := hr.cell 1; have r2 := hr.cell 2; have r3 := hr.cell 3; simp at r0 r1 r2 r3; go_simp; with_reducible rfl); (try (try simp only [Act.put, List.setIfInBounds_toArray, List.set_cons_zero, List.set_cons_succ]))))
                      (first | (refine Held.skip (i := 5) rfl (by kernel_rfl) (fun _ _ _ h => h) rfl ?_; (try (try simp only [Act.put, List.setIfInBounds_toArray, List.set_cons_zero, List.set_cons_succ]))) | (refine Held.take (i := 5) (v := ?_) rfl (by kernel_rfl) (fun _ _ _ h => h) rfl ?_ ?_; rotate_left; (intro w hS; have hE := hS.1; have hr := Hnn.out.after hE; have r0 := hr.cell 0; have r1 := hr.cell 1; have r2 := hr.cell 2; have r3 := hr.cell 3; simp at r0 r1 r2 r3; go_simp; with_reducible rfl); (try (try simp only [Act.put, List.setIfInBounds_toArray, List.set_cons_zero, List.set_cons_succ]))))
                      (first | (refine Held.skip (i := 6) rfl (by kernel_rfl) (fun _ _ _ h => h) rfl ?_; (try (try simp only [Act.put, List.setIfInBounds_toArray, List.set_cons_zero, List.set_cons_succ]))) | (refine Held.take (i := 6) (v := ?_) rfl (by kernel_rfl) (fun _ _ _ h => h) rfl ?_ ?_; rotate_left; (intro w hS; have hE := hS.1; have hr := Hnn.out.after hE; have r0 := hr.cell 0; have r1 := hr.cell 1; have r2 := hr.cell 2; have r3 := hr.cell 3; simp at r0 r1 r2 r3; go_simp; with_reducible rfl); (try (try simp only [Act.put, List.setIfInBounds_toArray, List.set_cons_zero, List.set_cons_succ]))))
                      (first | (refine Held.skip (i := 7) rfl (by kernel_rfl) (fun _ _ _ h => h) rfl ?_; (try (try simp only [Act.put, List.setIfInBounds_toArray, List.set_cons_zero, List.set_cons_succ]))) | (refine Held.take (i := 7) (v := ?_) rfl (by kernel_rfl) (fun _ _ _ h => h) rfl ?_ ?_; rotate_left; (intro w hS; have hE := hS.1; have hr := Hnn.out.after hE; have r0 := hr.cell 0; have r1 := hr.cell 1; have r2 := hr.cell 2; have r3 := hr.cell 3; simp at r0 r1 r2 r3; go_simp; with_reducible rfl); (try (try simp only [Act.put, List.setIfInBounds_toArray, List.set_cons_zero, List.set_cons_succ]))))
                      refine Held.one (i := 10) (by kernel_rfl) ?_
                      · refine HeldOp.step (i := 10) rfl rfl ?_
                        intro wcx hSc
                        obtain ⟨c0, c1, c2, c3, hblk⟩ := hSc.2.1
                        refine ⟨undef, ((((wcx.setCell ⟨g8, 0, none⟩ (.int .u64 (wd q 0 : Nat))).setCell ⟨g8, 1, none⟩ (.int .u64 (wd q 1 : Nat))).setCell ⟨g8, 2, none⟩ (.int .u64 (wd q 2 : Nat))).setCell ⟨g8, 3, none⟩ (.int .u64 (wd q 3 : Nat))), .inr ⟨?_, rfl⟩, (fun w' => Ext wnn w' ∧ IsBlk w' g8 25 #[.int .u64 (wd q 0 : Nat), .int .u64 (wd q 1 : Nat), .int .u64 (wd q 2 : Nat), .int .u64 (wd q 3 : Nat)] ∧ Four w' g9), ⟨bel4 hSc.1 hg8, stored4 hblk, Four.far4 (hSc.2.2) (by omega)⟩, fun w h => ⟨h.1, ⟨_, _, _, _, h.2.1⟩, h.2.2⟩, ?_⟩
                        · have b0 := hblk.cell 0
                          have b1 := hblk.cell 1
                          have b2 := hblk.cell 2
                          have b3 := hblk.cell 3
                          simp at b0 b1 b2 b3
                          have frb := hblk.free
                          have ltb := hblk.lt
                          go_simp
                        clear hSc hblk
                        (try simp only [Act.put])
                        refine Held.one (i := 11) (by kernel_rfl) ?_
                        · refine HeldOp.step (i := 11) rfl rfl ?_
                          intro wcx hSc
                          obtain ⟨c0, c1, c2, c3, hblk⟩ := hSc.2.2
                          refine ⟨undef, ((((wcx.setCell ⟨g9, 0, none⟩ (.int .u64 (wd r 0 : Nat))).setCell ⟨g9, 1, none⟩ (.int .u64 (wd r 1 : Nat))).setCell ⟨g9, 2, none⟩ (.int .u64 (wd r 2 : Nat))).setCell ⟨g9, 3, none⟩ (.int .u64 (wd r 3 : Nat))), .inr ⟨?_, rfl⟩, (fun w' => Ext wnn w' ∧ IsBlk w' g8 25 #[.int .u64 (wd q 0 : Nat), .int .u64 (wd q 1 : Nat), .int .u64 (wd q 2 : Nat), .int .u64 (wd q 3 : Nat)] ∧ IsBlk w' g9 25 #[.int .u64 (wd r 0 : Nat), .int .u64 (wd r 1 : Nat), .int .u64 (wd r 2 : Nat), .int .u64 (wd r 3 : Nat)]), ⟨bel4 hSc.1 hg9, far4 (hSc.2.1) (by omega), stored4 hblk⟩, fun w h => ⟨h.1, h.2.1, ⟨_, _, _, _, h.2.2⟩⟩, ?_⟩
                          · have b0 := hblk.cell 0
                            have b1 := hblk.cell 1
                            have b2 := hblk.cell 2
                            have b3 := hblk.cell 3
                            simp at b0 b1 b2 b3
                            have frb := hblk.free
                            have ltb := hblk.lt
                            go_simp
                          clear hSc hblk
                          (try simp only [Act.put])
                          (first | (refine Held.skip (i := 12) rfl (by kernel_rfl) (fun _ _ _ h => h) rfl ?_; (try (try simp only [Act.put, List.setIfInBounds_toArray, List.set_cons_zero, List.set_cons_succ]))) | (refine Held.take (i := 12) (v := ?_) rfl (by kernel_rfl) (fun _ _ _ h => h) rfl ?_ ?_; rotate_left; (intro w hS; have hE := hS.1; have hr := Hnn.out.after hE; have r0 := hr.cell 0; have r1 := hr.cell 1; have r2 := hr.cell 2; have r3 := hr.cell 3; simp at r0 r1 r2 r3; go_simp; with_reducible rfl); (try (try simp only [Act.put, List.setIfInBounds_toArray, List.set_cons_zero, List.set_cons_succ]))))
                          refine Held.done (by kernel_rfl) ?_
                          intro wz hz
                          have hne : g8 ≠ g9 := by omega
                          go_wp2_with fail
                          go_meet
                          exact ⟨g8, g9, rfl, rfl, rfl, hg8, hz.1, hz.2.1, hz.2.2⟩
              · refine HeldOp.step (i := 8) rfl rfl ?_
                intro wcx hSc
                have hg8 : wnn.heap.size ≤ wcx.heap.size := Below.size (hSc)
                refine ⟨.pointer (some ⟨wcx.heap.size, 0, none⟩), wcx.alloc (.cells #[.int .u64 0, .int .u64 0, .int .u64 0, .int .u64 0] 25), .inl (by go_simp), (fun w' => Ext wnn w' ∧ Four w' wcx.heap.size), ⟨Below.alloc (hSc) (Below.size (hSc)) _, ⟨_, _, _, _, IsBlk.new _ _ _⟩⟩, fun w h => h.1, ?_⟩
                generalize wcx.heap.size = g8 at *
                clear hSc
                (try simp only [Act.put, List.setIfInBounds_toArray, List.set_cons_zero, List.set_cons_succ])
                refine Held.two (i := 1) (j := 9) (by kernel_rfl) ?_ ?_
                · refine HeldOp.call (i := 1) (f := ?_) (args := ?_) rfl rfl ?_ ?_
                  rotate_left 2
                  · (intro w hS; go_simp; (first | with_reducible rfl | (refine ⟨?_, ?_⟩ <;> with_reducible rfl)))
                  intro wcx hSc
                  (with_reducible refine (K6.out _).mono ?_)
                  rintro e vc ⟨rfl, hb⟩
                  refine ⟨_, rfl, (fun w' => Ext wnn w' ∧ Four w' g8), ⟨bel_on hSc.1 hb, hSc.2.on hb⟩, fun w h => h, ?_⟩
                  clear hSc hb
                  (try simp only [Act.put, List.setIfInBounds_toArray, List.set_cons_zero, List.set_cons_succ])
                  refine Held.two (i := 3) (j := 9) (by kernel_rfl) ?_ ?_
                  · refine HeldOp.call (i := 3) (f := ?_) (args := ?_) rfl rfl ?_ ?_
                    rotate_left 2
                    · (intro w hS; go_simp; (first | with_reducible rfl | (refine ⟨?_, ?_⟩ <;> with_reducible rfl)))
                    intro wcx hSc
                    (with_reducible refine (K7.out _).mono ?_)
                    rintro e vc ⟨rfl, hb⟩
                    refine ⟨_, rfl, (fun w' => Ext wnn w' ∧ Four w' g8), ⟨bel_on hSc.1 hb, hSc.2.on hb⟩, fun w h => h, ?_⟩
                    clear hSc hb
                    (try simp only [Act.put, List.setIfInBounds_toArray, List.set_cons_zero, List.set_cons_succ])
                    (first | (refine Held.skip (i := 4) rfl (by kernel_rfl) (fun _ _ _ h => h) rfl ?_; (try (try simp only [Act.put, List.setIfInBounds_toArray, List.set_cons_zero, List.set_cons_succ]))) | (refine Held.take (i := 4) (v := ?_) rfl (by kernel_rfl) (fun _ _ _ h => h) rfl ?_ ?_; rotate_left; (intro w hS; have hE := hS.1; have hr := Hnn.out.after hE; have r0 := hr.cell 0; have r1 := hr.cell 1; have r2 := hr.cell 2; have r3 := hr.cell 3; simp at r0 r1 r2 r3; go_simp; with_reducible rfl); (try (try simp only [Act.put, List.setIfInBounds_toArray, List.set_cons_zero, List.set_cons_succ]))))
                    (first | (refine Held.skip (i := 5) rfl (by kernel_rfl) (fun _ _ _ h => h) rfl ?_; (try (try simp only [Act.put, List.setIfInBounds_toArray, List.set_cons_zero, List.set_cons_succ]))) | (refine Held.take (i := 5) (v := ?_) rfl (by kernel_rfl) (fun _ _ _ h => h) rfl ?_ ?_; rotate_left; (intro w hS; have hE := hS.1; have hr := Hnn.out.after hE; have r0 := hr.cell 0; have r1 := hr.cell 1; have r2 := hr.cell 2; have r3 := hr.cell 3; simp at r0 r1 r2 r3; go_simp; with_reducible rfl); (try (try simp only [Act.put, List.setIfInBounds_toArray, List.set_cons_zero, List.set_cons_succ]))))
                    (first | (refine Held.skip (i := 6) rfl (by kernel_rfl) (fun _ _ _ h => h) rfl ?_; (try (try simp only [Act.put, List.setIfInBounds_toArray, List.set_cons_zero, List.set_cons_succ]))) | (refine Held.take (i := 6) (v := ?_) rfl (by kernel_rfl) (fun _ _ _ h => h) rfl ?_ ?_; rotate_left; (intro w hS; have hE := hS.1; have hr := Hnn.out.after hE; have r0 := hr.cell 0; have r1 := hr.cell 1; have r2 := hr.cell 2; have r3 := hr.cell 3; simp at r0 r1 r2 r3; go_simp; with_reducible rfl); (try (try simp only [Act.put, List.setIfInBounds_toArray, List.set_cons_zero, List.set_cons_succ]))))
                    (first | (refine Held.skip (i := 7) rfl (by kernel_rfl) (fun _ _ _ h => h) rfl ?_; (try (try simp only [Act.put, List.setIfInBounds_toArray, List.set_cons_zero, List.set_cons_succ]))) | (refine Held.take (i := 7) (v := ?_) rfl (by kernel_rfl) (fun _ _ _ h => h) rfl ?_ ?_; rotate_left; (intro w hS; have hE := hS.1; have hr := Hnn.out.after hE; have r0 := hr.cell 0; have r1 := hr.cell 1; have r2 := hr.cell 2; have r3 := hr.cell 3; simp at r0 r1 r2 r3; go_simp; with_reducible rfl); (try (try simp only [Act.put, List.setIfInBounds_toArray, List.set_cons_zero, List.set_cons_succ]))))
                    refine Held.one (i := 9) (by kernel_rfl) ?_
                    · refine HeldOp.step (i := 9) rfl rfl ?_
                      intro wcx hSc
                      have hg9 : wnn.heap.size ≤ wcx.heap.size := Below.size (hSc.1)
                      have hn9 : g8 < wcx.heap.size := Four.lt (hSc.2)
                      refine ⟨.pointer (some ⟨wcx.heap.size, 0, none⟩), wcx.alloc (.cells #[.int .u64 0, .int .u64 0, .int .u64 0, .int .u64 0] 25), .inl (by go_simp), (fun w' => Ext wnn w' ∧ Four w' g8 ∧ Four w' wcx.heap.size), ⟨Below.alloc (hSc.1) (Below.size (hSc.1)) _, Four.alloc (hSc.2) _, ⟨_, _, _, _, IsBlk.new _ _ _⟩⟩, fun w h => ⟨h.1, h.2.1⟩, ?_⟩
                      generalize wcx.heap.size = g9 at *
                      clear hSc
                      (try simp only [Act.put, List.setIfInBounds_toArray, List.set_cons_zero, List.set_cons_succ])
                      refine Held.one (i := 10) (by kernel_rfl) ?_
                      · refine HeldOp.step (i := 10) rfl rfl ?_
                        intro wcx hSc
                        obtain ⟨c0, c1, c2, c3, hblk⟩ := hSc.2.1
                        refine ⟨undef, ((((wcx.setCell ⟨g8, 0, none⟩ (.int .u64 (wd q 0 : Nat))).setCell ⟨g8, 1, none⟩ (.int .u64 (wd q 1 : Nat))).setCell ⟨g8, 2, none⟩ (.int .u64 (wd q 2 : Nat))).setCell ⟨g8, 3, none⟩ (.int .u64 (wd q 3 : Nat))), .inr ⟨?_, rfl⟩, (fun w' => Ext wnn w' ∧ IsBlk w' g8 25 #[.int .u64 (wd q 0 : Nat), .int .u64 (wd q 1 : Nat), .int .u64 (wd q 2 : Nat), .int .u64 (wd q 3 : Nat)] ∧ Four w' g9), ⟨bel4 hSc.1 hg8, stored4 hblk, Four.far4 (hSc.2.2) (by omega)⟩, fun w h => ⟨h.1, ⟨_, _, _, _, h.2.1⟩, h.2.2⟩, ?_⟩
                        · have b0 := hblk.cell 0
                          have b1 := hblk.cell 1
                          have b2 := hblk.cell 2
                          have b3 := hblk.cell 3
                          simp at b0 b1 b2 b3
                          have frb := hblk.free
                          have ltb := hblk.lt
                          go_simp
                        clear hSc hblk
                        (try simp only [Act.put])
                        refine Held.one (i := 11) (by kernel_rfl) ?_
                        · refine HeldOp.step (i := 11) rfl rfl ?_
                          intro wcx hSc
                          obtain ⟨c0, c1, c2, c3, hblk⟩ := hSc.2.2
                          refine ⟨undef, ((((wcx.setCell ⟨g9, 0, none⟩ (.int .u64 (wd r 0 : Nat))).setCell ⟨g9, 1, none⟩ (.int .u64 (wd r 1 : Nat))).setCell ⟨g9, 2, none⟩ (.int .u64 (wd r 2 : Nat))).setCell ⟨g9, 3, none⟩ (.int .u64 (wd r 3 : Nat))), .inr ⟨?_, rfl⟩, (fun w' => Ext wnn w' ∧ IsBlk w' g8 25 #[.int .u64 (wd q 0 : Nat), .int .u64 (wd q 1 : Nat), .int .u64 (wd q 2 : Nat), .int .u64 (wd q 3 : Nat)] ∧ IsBlk w' g9 25 #[.int .u64 (wd r 0 : Nat), .int .u64 (wd r 1 : Nat), .int .u64 (wd r 2 : Nat), .int .u64 (wd r 3 : Nat)]), ⟨bel4 hSc.1 hg9, far4 (hSc.2.1) (by omega), stored4 hblk⟩, fun w h => ⟨h.1, h.2.1, ⟨_, _, _, _, h.2.2⟩⟩, ?_⟩
                          · have b0 := hblk.cell 0
                            have b1 := hblk.cell 1
                            have b2 := hblk.cell 2
                            have b3 := hblk.cell 3
                            simp at b0 b1 b2 b3
                            have frb := hblk.free
                            have ltb := hblk.lt
                            go_simp
                          clear hSc hblk
                          (try simp only [Act.put])
                          (first | (refine Held.skip (i := 12) rfl (by kernel_rfl) (fun _ _ _ h => h) rfl ?_; (try (try simp only [Act.put, List.setIfInBounds_toArray, List.set_cons_zero, List.set_cons_succ]))) | (refine Held.take (i := 12) (v := ?_) rfl (by kernel_rfl) (fun _ _ _ h => h) rfl ?_ ?_; rotate_left; (intro w hS; have hE := hS.1; have hr := Hnn.out.after hE; have r0 := hr.cell 0; have r1 := hr.cell 1; have r2 := hr.cell 2; have r3 := hr.cell 3; simp at r0 r1 r2 r3; go_simp; with_reducible rfl); (try (try simp only [Act.put, List.setIfInBounds_toArray, List.set_cons_zero, List.set_cons_succ]))))
                          refine Held.done (by kernel_rfl) ?_
                          intro wz hz
                          have hne : g8 ≠ g9 := by omega
                          go_wp2_with fail
                          go_meet
                          exact ⟨g8, g9, rfl, rfl, rfl, hg8, hz.1, hz.2.1, hz.2.2⟩
                  · refine HeldOp.step (i := 9) rfl rfl ?_
                    intro wcx hSc
                    have hg9 : wnn.heap.size ≤ wcx.heap.size := Below.size (hSc.1)
                    have hn9 : g8 < wcx.heap.size := Four.lt (hSc.2)
                    refine ⟨.pointer (some ⟨wcx.heap.size, 0, none⟩), wcx.alloc (.cells #[.int .u64 0, .int .u64 0, .int .u64 0, .int .u64 0] 25), .inl (by go_simp), (fun w' => Ext wnn w' ∧ Four w' g8 ∧ Four w' wcx.heap.size), ⟨Below.alloc (hSc.1) (Below.size (hSc.1)) _, Four.alloc (hSc.2) _, ⟨_, _, _, _, IsBlk.new _ _ _⟩⟩, fun w h => ⟨h.1, h.2.1⟩, ?_⟩
                    generalize wcx.heap.size = g9 at *
                    clear hSc
                    (try simp only [Act.put, List.setIfInBounds_toArray, List.set_cons_zero, List.set_cons_succ])
                    refine Held.one (i := 3) (by kernel_rfl) ?_
                    · refine HeldOp.call (i := 3) (f := ?_) (args := ?_) rfl rfl ?_ ?_
                      rotate_left 2
                      · (intro w hS; go_simp; (first | with_reducible rfl | (refine ⟨?_, ?_⟩ <;> with_reducible rfl)))
                      intro wcx hSc
                      (with_reducible refine (K7.out _).mono ?_)
                      rintro e vc ⟨rfl, hb⟩
                      refine ⟨_, rfl, (fun w' => Ext wnn w' ∧ Four w' g8 ∧ Four w' g9), ⟨bel_on hSc.1 hb, hSc.2.1.on hb, hSc.2.2.on hb⟩, fun w h => h, ?_⟩
                      clear hSc hb
                      (try simp only [Act.put, List.setIfInBounds_toArray, List.set_cons_zero, List.set_cons_succ])
                      (first | (refine Held.skip (i := 4) rfl (by kernel_rfl) (fun _ _ _ h => h) rfl ?_; (try (try simp only [Act.put, List.setIfInBounds_toArray, List.set_cons_zero, List.set_cons_succ]))) | (refine Held.take (i := 4) (v := ?_) rfl (by kernel_rfl) (fun _ _ _ h => h) rfl ?_ ?_; rotate_left; (intro w hS; have hE := hS.1; have hr := Hnn.out.after hE; have r0 := hr.cell 0; have r1 := hr.cell 1; have r2 := hr.cell 2; have r3 := hr.cell 3; simp at r0 r1 r2 r3; go_simp; with_reducible rfl); (try (try simp only [Act.put, List.setIfInBounds_toArray, List.set_cons_zero, List.set_cons_succ]))))
                      (first | (refine Held.skip (i := 5) rfl (by kernel_rfl) (fun _ _ _ h => h) rfl ?_; (try (try simp only [Act.put, List.setIfInBounds_toArray, List.set_cons_zero, List.set_cons_succ]))) | (refine Held.take (i := 5) (v := ?_) rfl (by kernel_rfl) (fun _ _ _ h => h) rfl ?_ ?_; rotate_left; (intro w hS; have hE := hS.1; have hr := Hnn.out.after hE; have r0 := hr.cell 0; have r1 := hr.cell 1; have r2 := hr.cell 2; have r3 := hr.cell 3; simp at r0 r1 r2 r3; go_simp; with_reducible rfl); (try (try simp only [Act.put, List.setIfInBounds_toArray, List.set_cons_zero, List.set_cons_succ]))))
                      (first | (refine Held.skip (i := 6) rfl (by kernel_rfl) (fun _ _ _ h => h) rfl ?_; (try (try simp only [Act.put, List.setIfInBounds_toArray, List.set_cons_zero, List.set_cons_succ]))) | (refine Held.take (i := 6) (v := ?_) rfl (by kernel_rfl) (fun _ _ _ h => h) rfl ?_ ?_; rotate_left; (intro w hS; have hE := hS.1; have hr := Hnn.out.after hE; have r0 := hr.cell 0; have r1 := hr.cell 1; have r2 := hr.cell 2; have r3 := hr.cell 3; simp at r0 r1 r2 r3; go_simp; with_reducible rfl); (try (try simp only [Act.put, List.setIfInBounds_toArray, List.set_cons_zero, List.set_cons_succ]))))
                      (first | (refine Held.skip (i := 7) rfl (by kernel_rfl) (fun _ _ _ h => h) rfl ?_; (try (try simp only [Act.put, List.setIfInBounds_toArray, List.set_cons_zero, List.set_cons_succ]))) | (refine Held.take (i := 7) (v := ?_) rfl (by kernel_rfl) (fun _ _ _ h => h) rfl ?_ ?_; rotate_left; (intro w hS; have hE := hS.1; have hr := Hnn.out.after hE; have r0 := hr.cell 0; have r1 := hr.cell 1; have r2 := hr.cell 2; have r3 := hr.cell 3; simp at r0 r1 r2 r3; go_simp; with_reducible rfl); (try (try simp only [Act.put, List.setIfInBounds_toArray, List.set_cons_zero, List.set_cons_succ]))))
                      refine Held.one (i := 10) (by kernel_rfl) ?_
                      · refine HeldOp.step (i := 10) rfl rfl ?_
                        intro wcx hSc
                        obtain ⟨c0, c1, c2, c3, hblk⟩ := hSc.2.1
                        refine ⟨undef, ((((wcx.setCell ⟨g8, 0, none⟩ (.int .u64 (wd q 0 : Nat))).setCell ⟨g8, 1, none⟩ (.int .u64 (wd q 1 : Nat))).setCell ⟨g8, 2, none⟩ (.int .u64 (wd q 2 : Nat))).setCell ⟨g8, 3, none⟩ (.int .u64 (wd q 3 : Nat))), .inr ⟨?_, rfl⟩, (fun w' => Ext wnn w' ∧ IsBlk w' g8 25 #[.int .u64 (wd q 0 : Nat), .int .u64 (wd q 1 : Nat), .int .u64 (wd q 2 : Nat), .int .u64 (wd q 3 : Nat)] ∧ Four w' g9), ⟨bel4 hSc.1 hg8, stored4 hblk, Four.far4 (hSc.2.2) (by omega)⟩, fun w h => ⟨h.1, ⟨_, _, _, _, h.2.1⟩, h.2.2⟩, ?_⟩
                        · have b0 := hblk.cell 0
                          have b1 := hblk.cell 1
                          have b2 := hblk.cell 2
                          have b3 := hblk.cell 3
                          simp at b0 b1 b2 b3
                          have frb := hblk.free
                          have ltb := hblk.lt
                          go_simp
                        clear hSc hblk
                        (try simp only [Act.put])
                        refine Held.one (i := 11) (by kernel_rfl) ?_
                        · refine HeldOp.step (i := 11) rfl rfl ?_
                          intro wcx hSc
                          obtain ⟨c0, c1, c2, c3, hblk⟩ := hSc.2.2
                          refine ⟨undef, ((((wcx.setCell ⟨g9, 0, none⟩ (.int .u64 (wd r 0 : Nat))).setCell ⟨g9, 1, none⟩ (.int .u64 (wd r 1 : Nat))).setCell ⟨g9, 2, none⟩ (.int .u64 (wd r 2 : Nat))).setCell ⟨g9, 3, none⟩ (.int .u64 (wd r 3 : Nat))), .inr ⟨?_, rfl⟩, (fun w' => Ext wnn w' ∧ IsBlk w' g8 25 #[.int .u64 (wd q 0 : Nat), .int .u64 (wd q 1 : Nat), .int .u64 (wd q 2 : Nat), .int .u64 (wd q 3 : Nat)] ∧ IsBlk w' g9 25 #[.int .u64 (wd r 0 : Nat), .int .u64 (wd r 1 : Nat), .int .u64 (wd r 2 : Nat), .int .u64 (wd r 3 : Nat)]), ⟨bel4 hSc.1 hg9, far4 (hSc.2.1) (by omega), stored4 hblk⟩, fun w h => ⟨h.1, h.2.1, ⟨_, _, _, _, h.2.2⟩⟩, ?_⟩
                          · have b0 := hblk.cell 0
                            have b1 := hblk.cell 1
                            have b2 := hblk.cell 2
                            have b3 := hblk.cell 3
                            simp at b0 b1 b2 b3
                            have frb := hblk.free
                            have ltb := hblk.lt
                            go_simp
                          clear hSc hblk
                          (try simp only [Act.put])
                          (first | (refine Held.skip (i := 12) rfl (by kernel_rfl) (fun _ _ _ h => h) rfl ?_; (try (try simp only [Act.put, List.setIfInBounds_toArray, List.set_cons_zero, List.set_cons_succ]))) | (refine Held.take (i := 12) (v := ?_) rfl (by kernel_rfl) (fun _ _ _ h => h) rfl ?_ ?_; rotate_left; (intro w hS; have hE := hS.1; have hr := Hnn.out.after hE; have r0 := hr.cell 0; have r1 := hr.cell 1; have r2 := hr.cell 2; have r3 := hr.cell 3; simp at r0 r1 r2 r3; go_simp; with_reducible rfl); (try (try simp only [Act.put, List.setIfInBounds_toArray, List.set_cons_zero, List.set_cons_succ]))))
                          refine Held.done (by kernel_rfl) ?_
                          intro wz hz
                          have hne : g8 ≠ g9 := by omega
                          go_wp2_with fail
                          go_meet
                          exact ⟨g8, g9, rfl, rfl, rfl, hg8, hz.1, hz.2.1, hz.2.2⟩
                · refine HeldOp.step (i := 9) rfl rfl ?_
                  intro wcx hSc
                  have hg9 : wnn.heap.size ≤ wcx.heap.size := Below.size (hSc.1)
                  have hn9 : g8 < wcx.heap.size := Four.lt (hSc.2)
                  refine ⟨.pointer (some ⟨wcx.heap.size, 0, none⟩), wcx.alloc (.cells #[.int .u64 0, .int .u64 0, .int .u64 0, .int .u64 0] 25), .inl (by go_simp), (fun w' => Ext wnn w' ∧ Four w' g8 ∧ Four w' wcx.heap.size), ⟨Below.alloc (hSc.1) (Below.size (hSc.1)) _, Four.alloc (hSc.2) _, ⟨_, _, _, _, IsBlk.new _ _ _⟩⟩, fun w h => ⟨h.1, h.2.1⟩, ?_⟩
                  generalize wcx.heap.size = g9 at *
                  clear hSc
                  (try simp only [Act.put, List.setIfInBounds_toArray, List.set_cons_zero, List.set_cons_succ])
                  refine Held.one (i := 1) (by kernel_rfl) ?_
                  · refine HeldOp.call (i := 1) (f := ?_) (args := ?_) rfl rfl ?_ ?_
                    rotate_left 2
                    · (intro w hS; go_simp; (first | with_reducible rfl | (refine ⟨?_, ?_⟩ <;> with_reducible rfl)))
                    intro wcx hSc
                    (with_reducible refine (K6.out _).mono ?_)
                    rintro e vc ⟨rfl, hb⟩
                    refine ⟨_, rfl, (fun w' => Ext wnn w' ∧ Four w' g8 ∧ Four w' g9), ⟨bel_on hSc.1 hb, hSc.2.1.on hb, hSc.2.2.on hb⟩, fun w h => h, ?_⟩
                    clear hSc hb
                    (try simp only [Act.put, List.setIfInBounds_toArray, List.set_cons_zero, List.set_cons_succ])
                    refine Held.one (i := 3) (by kernel_rfl) ?_
                    · refine HeldOp.call (i := 3) (f := ?_) (args := ?_) rfl rfl ?_ ?_
                      rotate_left 2
                      · (intro w hS; go_simp; (first | with_reducible rfl | (refine ⟨?_, ?_⟩ <;> with_reducible rfl)))
                      intro wcx hSc
                      (with_reducible refine (K7.out _).mono ?_)
                      rintro e vc ⟨rfl, hb⟩
                      refine ⟨_, rfl, (fun w' => Ext wnn w' ∧ Four w' g8 ∧ Four w' g9), ⟨bel_on hSc.1 hb, hSc.2.1.on hb, hSc.2.2.on hb⟩, fun w h => h, ?_⟩
                      clear hSc hb
                      (try simp only [Act.put, List.setIfInBounds_toArray, List.set_cons_zero, List.set_cons_succ])
                      (first | (refine Held.skip (i := 4) rfl (by kernel_rfl) (fun _ _ _ h => h) rfl ?_; (try (try simp only [Act.put, List.setIfInBounds_toArray, List.set_cons_zero, List.set_cons_succ]))) | (refine Held.take (i := 4) (v := ?_) rfl (by kernel_rfl) (fun _ _ _ h => h) rfl ?_ ?_; rotate_left; (intro w hS; have hE := hS.1; have hr := Hnn.out.after hE; have r0 := hr.cell 0; have r1 := hr.cell 1; have r2 := hr.cell 2; have r3 := hr.cell 3; simp at r0 r1 r2 r3; go_simp; with_reducible rfl); (try (try simp only [Act.put, List.setIfInBounds_toArray, List.set_cons_zero, List.set_cons_succ]))))
                      (first | (refine Held.skip (i := 5) rfl (by kernel_rfl) (fun _ _ _ h => h) rfl ?_; (try (try simp only [Act.put, List.setIfInBounds_toArray, List.set_cons_zero, List.set_cons_succ]))) | (refine Held.take (i := 5) (v := ?_) rfl (by kernel_rfl) (fun _ _ _ h => h) rfl ?_ ?_; rotate_left; (intro w hS; have hE := hS.1; have hr := Hnn.out.after hE; have r0 := hr.cell 0; have r1 := hr.cell 1; have r2 := hr.cell 2; have r3 := hr.cell 3; simp at r0 r1 r2 r3; go_simp; with_reducible rfl); (try (try simp only [Act.put, List.setIfInBounds_toArray, List.set_cons_zero, List.set_cons_succ]))))
                      (first | (refine Held.skip (i := 6) rfl (by kernel_rfl) (fun _ _ _ h => h) rfl ?_; (try (try simp only [Act.put, List.setIfInBounds_toArray, List.set_cons_zero, List.set_cons_succ]))) | (refine Held.take (i := 6) (v := ?_) rfl (by kernel_rfl) (fun _ _ _ h => h) rfl ?_ ?_; rotate_left; (intro w hS; have hE := hS.1; have hr := Hnn.out.after hE; have r0 := hr.cell 0; have r1 := hr.cell 1; have r2 := hr.cell 2; have r3 := hr.cell 3; simp at r0 r1 r2 r3; go_simp; with_reducible rfl); (try (try simp only [Act.put, List.setIfInBounds_toArray, List.set_cons_zero, List.set_cons_succ]))))
                      (first | (refine Held.skip (i := 7) rfl (by kernel_rfl) (fun _ _ _ h => h) rfl ?_; (try (try simp only [Act.put, List.setIfInBounds_toArray, List.set_cons_zero, List.set_cons_succ]))) | (refine Held.take (i := 7) (v := ?_) rfl (by kernel_rfl) (fun _ _ _ h => h) rfl ?_ ?_; rotate_left; (intro w hS; have hE := hS.1; have hr := Hnn.out.after hE; have r0 := hr.cell 0; have r1 := hr.cell 1; have r2 := hr.cell 2; have r3 := hr.cell 3; simp at r0 r1 r2 r3; go_simp; with_reducible rfl); (try (try simp only [Act.put, List.setIfInBounds_toArray, List.set_cons_zero, List.set_cons_succ]))))
                      refine Held.one (i := 10) (by kernel_rfl) ?_
                      · refine HeldOp.step (i := 10) rfl rfl ?_
                        intro wcx hSc
                        obtain ⟨c0, c1, c2, c3, hblk⟩ := hSc.2.1
                        refine ⟨undef, ((((wcx.setCell ⟨g8, 0, none⟩ (.int .u64 (wd q 0 : Nat))).setCell ⟨g8, 1, none⟩ (.int .u64 (wd q 1 : Nat))).setCell ⟨g8, 2, none⟩ (.int .u64 (wd q 2 : Nat))).setCell ⟨g8, 3, none⟩ (.int .u64 (wd q 3 : Nat))), .inr ⟨?_, rfl⟩, (fun w' => Ext wnn w' ∧ IsBlk w' g8 25 #[.int .u64 (wd q 0 : Nat), .int .u64 (wd q 1 : Nat), .int .u64 (wd q 2 : Nat), .int .u64 (wd q 3 : Nat)] ∧ Four w' g9), ⟨bel4 hSc.1 hg8, stored4 hblk, Four.far4 (hSc.2.2) (by omega)⟩, fun w h => ⟨h.1, ⟨_, _, _, _, h.2.1⟩, h.2.2⟩, ?_⟩
                        · have b0 := hblk.cell 0
                          have b1 := hblk.cell 1
                          have b2 := hblk.cell 2
                          have b3 := hblk.cell 3
                          simp at b0 b1 b2 b3
                          have frb := hblk.free
                          have ltb := hblk.lt
                          go_simp
                        clear hSc hblk
                        (try simp only [Act.put])
                        refine Held.one (i := 11) (by kernel_rfl) ?_
                        · refine HeldOp.step (i := 11) rfl rfl ?_
                          intro wcx hSc
                          obtain ⟨c0, c1, c2, c3, hblk⟩ := hSc.2.2
                          refine ⟨undef, ((((wcx.setCell ⟨g9, 0, none⟩ (.int .u64 (wd r 0 : Nat))).setCell ⟨g9, 1, none⟩ (.int .u64 (wd r 1 : Nat))).setCell ⟨g9, 2, none⟩ (.int .u64 (wd r 2 : Nat))).setCell ⟨g9, 3, none⟩ (.int .u64 (wd r 3 : Nat))), .inr ⟨?_, rfl⟩, (fun w' => Ext wnn w' ∧ IsBlk w' g8 25 #[.int .u64 (wd q 0 : Nat), .int .u64 (wd q 1 : Nat), .int .u64 (wd q 2 : Nat), .int .u64 (wd q 3 : Nat)] ∧ IsBlk w' g9 25 #[.int .u64 (wd r 0 : Nat), .int .u64 (wd r 1 : Nat), .int .u64 (wd r 2 : Nat), .int .u64 (wd r 3 : Nat)]), ⟨bel4 hSc.1 hg9, far4 (hSc.2.1) (by omega), stored4 hblk⟩, fun w h => ⟨h.1, h.2.1, ⟨_, _, _, _, h.2.2⟩⟩, ?_⟩
                          · have b0 := hblk.cell 0
                            have b1 := hblk.cell 1
                            have b2 := hblk.cell 2
                            have b3 := hblk.cell 3
                            simp at b0 b1 b2 b3
                            have frb := hblk.free
                            have ltb := hblk.lt
                            go_simp
                          clear hSc hblk
                          (try simp only [Act.put])
                          (first | (refine Held.skip (i := 12) rfl (by kernel_rfl) (fun _ _ _ h => h) rfl ?_; (try (try simp only [Act.put, List.setIfInBounds_toArray, List.set_cons_zero, List.set_cons_succ]))) | (refine Held.take (i := 12) (v := ?_) rfl (by kernel_rfl) (fun _ _ _ h => h) rfl ?_ ?_; rotate_left; (intro w hS; have hE := hS.1; have hr := Hnn.out.after hE; have r0 := hr.cell 0; have r1 := hr.cell 1; have r2 := hr.cell 2; have r3 := hr.cell 3; simp at r0 r1 r2 r3; go_simp; with_reducible rfl); (try (try simp only [Act.put, List.setIfInBounds_toArray, List.set_cons_zero, List.set_cons_succ]))))
                          refine Held.done (by kernel_rfl) ?_
                          intro wz hz
                          have hne : g8 ≠ g9 := by omega
                          go_wp2_with fail
                          go_meet
                          exact ⟨g8, g9, rfl, rfl, rfl, hg8, hz.1, hz.2.1, hz.2.2⟩
              · refine HeldOp.step (i := 9) rfl rfl ?_
                intro wcx hSc
                have hg9 : wnn.heap.size ≤ wcx.heap.size := Below.size (hSc)
                refine ⟨.pointer (some ⟨wcx.heap.size, 0, none⟩), wcx.alloc (.cells #[.int .u64 0, .int .u64 0, .int .u64 0, .int .u64 0] 25), .inl (by go_simp), (fun w' => Ext wnn w' ∧ Four w' wcx.heap.size), ⟨Below.alloc (hSc) (Below.size (hSc)) _, ⟨_, _, _, _, IsBlk.new _ _ _⟩⟩, fun w h => h.1, ?_⟩
                generalize wcx.heap.size = g9 at *
                clear hSc
                (try simp only [Act.put, List.setIfInBounds_toArray, List.set_cons_zero, List.set_cons_succ])
                refine Held.two (i := 1) (j := 8) (by kernel_rfl) ?_ ?_
                · refine HeldOp.call (i := 1) (f := ?_) (args := ?_) rfl rfl ?_ ?_
                  rotate_left 2
                  · (intro w hS; go_simp; (first | with_reducible rfl | (refine ⟨?_, ?_⟩ <;> with_reducible rfl)))
                  intro wcx hSc
                  (with_reducible refine (K6.out _).mono ?_)
                  rintro e vc ⟨rfl, hb⟩
                  refine ⟨_, rfl, (fun w' => Ext wnn w' ∧ Four w' g9), ⟨bel_on hSc.1 hb, hSc.2.on hb⟩, fun w h => h, ?_⟩
                  clear hSc hb
                  (try simp only [Act.put, List.setIfInBounds_toArray, List.set_cons_zero, List.set_cons_succ])
                  refine Held.two (i := 3) (j := 8) (by kernel_rfl) ?_ ?_
                  · refine HeldOp.call (i := 3) (f := ?_) (args := ?_) rfl rfl ?_ ?_
                    rotate_left 2
                    · (intro w hS; go_simp; (first | with_reducible rfl | (refine ⟨?_, ?_⟩ <;> with_reducible rfl)))
                    intro wcx hSc
                    (with_reducible refine (K7.out _).mono ?_)
                    rintro e vc ⟨rfl, hb⟩
                    refine ⟨_, rfl, (fun w' => Ext wnn w' ∧ Four w' g9), ⟨bel_on hSc.1 hb, hSc.2.on hb⟩, fun w h => h, ?_⟩
                    clear hSc hb
                    (try simp only [Act.put, List.setIfInBounds_toArray, List.set_cons_zero, List.set_cons_succ])
                    (first | (refine Held.skip (i := 4) rfl (by kernel_rfl) (fun _ _ _ h => h) rfl ?_; (try (try simp only [Act.put, List.setIfInBounds_toArray, List.set_cons_zero, List.set_cons_succ]))) | (refine Held.take (i := 4) (v := ?_) rfl (by kernel_rfl) (fun _ _ _ h => h) rfl ?_ ?_; rotate_left; (intro w hS; have hE := hS.1; have hr := Hnn.out.after hE; have r0 := hr.cell 0; have r1 := hr.cell 1; have r2 := hr.cell 2; have r3 := hr.cell 3; simp at r0 r1 r2 r3; go_simp; with_reducible rfl); (try (try simp only [Act.put, List.setIfInBounds_toArray, List.set_cons_zero, List.set_cons_succ]))))
                    (first | (refine Held.skip (i := 5) rfl (by kernel_rfl) (fun _ _ _ h => h) rfl ?_; (try (try simp only [Act.put, List.setIfInBounds_toArray, List.set_cons_zero, List.set_cons_succ]))) | (refine Held.take (i := 5) (v := ?_) rfl (by kernel_rfl) (fun _ _ _ h => h) rfl ?_ ?_; rotate_left; (intro w hS; have hE := hS.1; have hr := Hnn.out.after hE; have r0 := hr.cell 0; have r1 := hr.cell 1; have r2 := hr.cell 2; have r3 := hr.cell 3; simp at r0 r1 r2 r3; go_simp; with_reducible rfl); (try (try simp only [Act.put, List.setIfInBounds_toArray, List.set_cons_zero, List.set_cons_succ]))))
                    (first | (refine Held.skip (i := 6) rfl (by kernel_rfl) (fun _ _ _ h => h) rfl ?_; (try (try simp only [Act.put, List.setIfInBounds_toArray, List.set_cons_zero, List.set_cons_succ]))) | (refine Held.take (i := 6) (v := ?_) rfl (by kernel_rfl) (fun _ _ _ h => h) rfl ?_ ?_; rotate_left; (intro w hS; have hE := hS.1; have hr := Hnn.out.after hE; have r0 := hr.cell 0; have r1 := hr.cell 1; have r2 := hr.cell 2; have r3 := hr.cell 3; simp at r0 r1 r2 r3; go_simp; with_reducible rfl); (try (try simp only [Act.put, List.setIfInBounds_toArray, List.set_cons_zero, List.set_cons_succ]))))
                    (first | (refine Held.skip (i := 7) rfl (by kernel_rfl) (fun _ _ _ h => h) rfl ?_; (try (try simp only [Act.put, List.setIfInBounds_toArray, List.set_cons_zero, List.set_cons_succ]))) | (refine Held.take (i := 7) (v := ?_) rfl (by kernel_rfl) (fun _ _ _ h => h) rfl ?_ ?_; rotate_left; (intro w hS; have hE := hS.1; have hr := Hnn.out.after hE; have r0 := hr.cell 0; have r1 := hr.cell 1; have r2 := hr.cell 2; have r3 := hr.cell 3; simp at r0 r1 r2 r3; go_simp; with_reducible rfl); (try (try simp only [Act.put, List.setIfInBounds_toArray, List.set_cons_zero, List.set_cons_succ]))))
                    refine Held.one (i := 8) (by kernel_rfl) ?_
                    · refine HeldOp.step (i := 8) rfl rfl ?_
                      intro wcx hSc
                      have hg8 : wnn.heap.size ≤ wcx.heap.size := Below.size (hSc.1)
                      have hn8 : g9 < wcx.heap.size := Four.lt (hSc.2)
                      refine ⟨.pointer (some ⟨wcx.heap.size, 0, none⟩), wcx.alloc (.cells #[.int .u64 0, .int .u64 0, .int .u64 0, .int .u64 0] 25), .inl (by go_simp), (fun w' => Ext wnn w' ∧ Four w' wcx.heap.size ∧ Four w' g9), ⟨Below.alloc (hSc.1) (Below.size (hSc.1)) _, ⟨_, _, _, _, IsBlk.new _ _ _⟩, Four.alloc (hSc.2) _⟩, fun w h => ⟨h.1, h.2.2⟩, ?_⟩
                      generalize wcx.heap.size = g8 at *
                      clear hSc
                      (try simp only [Act.put, List.setIfInBounds_toArray, List.set_cons_zero, List.set_cons_succ])
                      refine Held.one (i := 10) (by kernel_rfl) ?_
                      · refine HeldOp.step (i := 10) rfl rfl ?_
                        intro wcx hSc
                        obtain ⟨c0, c1, c2, c3, hblk⟩ := hSc.2.1
                        refine ⟨undef, ((((wcx.setCell ⟨g8, 0, none⟩ (.int .u64 (wd q 0 : Nat))).setCell ⟨g8, 1, none⟩ (.int .u64 (wd q 1 : Nat))).setCell ⟨g8, 2, none⟩ (.int .u64 (wd q 2 : Nat))).setCell ⟨g8, 3, none⟩ (.int .u64 (wd q 3 : Nat))), .inr ⟨?_, rfl⟩, (fun w' => Ext wnn w' ∧ IsBlk w' g8 25 #[.int .u64 (wd q 0 : Nat), .int .u64 (wd q 1 : Nat), .int .u64 (wd q 2 : Nat), .int .u64 (wd q 3 : Nat)] ∧ Four w' g9), ⟨bel4 hSc.1 hg8, stored4 hblk, Four.far4 (hSc.2.2) (by omega)⟩, fun w h => ⟨h.1, ⟨_, _, _, _, h.2.1⟩, h.2.2⟩, ?_⟩
                        · have b0 := hblk.cell 0
                          have b1 := hblk.cell 1
                          have b2 := hblk.cell 2
                          have b3 := hblk.cell 3
                          simp at b0 b1 b2 b3
                          have frb := hblk.free
                          have ltb := hblk.lt
                          go_simp
                        clear hSc hblk
                        (try simp only [Act.put])
                        refine Held.one (i := 11) (by kernel_rfl) ?_
                        · refine HeldOp.step (i := 11) rfl rfl ?_
                          intro wcx hSc
                          obtain ⟨c0, c1, c2, c3, hblk⟩ := hSc.2.2
                          refine ⟨undef, ((((wcx.setCell ⟨g9, 0, none⟩ (.int .u64 (wd r 0 : Nat))).setCell ⟨g9, 1, none⟩ (.int .u64 (wd r 1 : Nat))).setCell ⟨g9, 2, none⟩ (.int .u64 (wd r 2 : Nat))).setCell ⟨g9, 3, none⟩ (.int .u64 (wd r 3 : Nat))), .inr ⟨?_, rfl⟩, (fun w' => Ext wnn w' ∧ IsBlk w' g8 25 #[.int .u64 (wd q 0 : Nat), .int .u64 (wd q 1 : Nat), .int .u64 (wd q 2 : Nat), .int .u64 (wd q 3 : Nat)] ∧ IsBlk w' g9 25 #[.int .u64 (wd r 0 : Nat), .int .u64 (wd r 1 : Nat), .int .u64 (wd r 2 : Nat), .int .u64 (wd r 3 : Nat)]), ⟨bel4 hSc.1 hg9, far4 (hSc.2.1) (by omega), stored4 hblk⟩, fun w h => ⟨h.1, h.2.1, ⟨_, _, _, _, h.2.2⟩⟩, ?_⟩
                          · have b0 := hblk.cell 0
                            have b1 := hblk.cell 1
                            have b2 := hblk.cell 2
                            have b3 := hblk.cell 3
                            simp at b0 b1 b2 b3
                            have frb := hblk.free
                            have ltb := hblk.lt
                            go_simp
                          clear hSc hblk
                          (try simp only [Act.put])
                          (first | (refine Held.skip (i := 12) rfl (by kernel_rfl) (fun _ _ _ h => h) rfl ?_; (try (try simp only [Act.put, List.setIfInBounds_toArray, List.set_cons_zero, List.set_cons_succ]))) | (refine Held.take (i := 12) (v := ?_) rfl (by kernel_rfl) (fun _ _ _ h => h) rfl ?_ ?_; rotate_left; (intro w hS; have hE := hS.1; have hr := Hnn.out.after hE; have r0 := hr.cell 0; have r1 := hr.cell 1; have r2 := hr.cell 2; have r3 := hr.cell 3; simp at r0 r1 r2 r3; go_simp; with_reducible rfl); (try (try simp only [Act.put, List.setIfInBounds_toArray, List.set_cons_zero, List.set_cons_succ]))))
                          refine Held.done (by kernel_rfl) ?_
                          intro wz hz
                          have hne : g8 ≠ g9 := by omega
                          go_wp2_with fail
                          go_meet
                          exact ⟨g8, g9, rfl, rfl, rfl, hg8, hz.1, hz.2.1, hz.2.2⟩
                  · refine HeldOp.step (i := 8) rfl rfl ?_
                    intro wcx hSc
                    have hg8 : wnn.heap.size ≤ wcx.heap.size := Below.size (hSc.1)
                    have hn8 : g9 < wcx.heap.size := Four.lt (hSc.2)
                    refine ⟨.pointer (some ⟨wcx.heap.size, 0, none⟩), wcx.alloc (.cells #[.int .u64 0, .int .u64 0, .int .u64 0, .int .u64 0] 25), .inl (by go_simp), (fun w' => Ext wnn w' ∧ Four w' wcx.heap.size ∧ Four w' g9), ⟨Below.alloc (hSc.1) (Below.size (hSc.1)) _, ⟨_, _, _, _, IsBlk.new _ _ _⟩, Four.alloc (hSc.2) _⟩, fun w h => ⟨h.1, h.2.2⟩, ?_⟩
                    generalize wcx.heap.size = g8 at *
                    clear hSc
                    (try simp only [Act.put, List.setIfInBounds_toArray, List.set_cons_zero, List.set_cons_succ])
                    refine Held.one (i := 3) (by kernel_rfl) ?_
                    · refine HeldOp.call (i := 3) (f := ?_) (args := ?_) rfl rfl ?_ ?_
                      rotate_left 2
                      · (intro w hS; go_simp; (first | with_reducible rfl | (refine ⟨?_, ?_⟩ <;> with_reducible rfl)))
                      intro wcx hSc
                      (with_reducible refine (K7.out _).mono ?_)
                      rintro e vc ⟨rfl, hb⟩
                      refine ⟨_, rfl, (fun w' => Ext wnn w' ∧ Four w' g8 ∧ Four w' g9), ⟨bel_on hSc.1 hb, hSc.2.1.on hb, hSc.2.2.on hb⟩, fun w h => h, ?_⟩
                      clear hSc hb
                      (try simp only [Act.put, List.setIfInBounds_toArray, List.set_cons_zero, List.set_cons_succ])
                      (first | (refine Held.skip (i := 4) rfl (by kernel_rfl) (fun _ _ _ h => h) rfl ?_; (try (try simp only [Act.put, List.setIfInBounds_toArray, List.set_cons_zero, List.set_cons_succ]))) | (refine Held.take (i := 4) (v := ?_) rfl (by kernel_rfl) (fun _ _ _ h => h) rfl ?_ ?_; rotate_left; (intro w hS; have hE := hS.1; have hr := Hnn.out.after hE; have r0 := hr.cell 0; have r1 := hr.cell 1; have r2 := hr.cell 2; have r3 := hr.cell 3; simp at r0 r1 r2 r3; go_simp; with_reducible rfl); (try (try simp only [Act.put, List.setIfInBounds_toArray, List.set_cons_zero, List.set_cons_succ]))))
                      (first | (refine Held.skip (i := 5) rfl (by kernel_rfl) (fun _ _ _ h => h) rfl ?_; (try (try simp only [Act.put, List.setIfInBounds_toArray, List.set_cons_zero, List.set_cons_succ]))) | (refine Held.take (i := 5) (v := ?_) rfl (by kernel_rfl) (fun _ _ _ h => h) rfl ?_ ?_; rotate_left; (intro w hS; have hE := hS.1; have hr := Hnn.out.after hE; have r0 := hr.cell 0; have r1 := hr.cell 1; have r2 := hr.cell 2; have r3 := hr.cell 3; simp at r0 r1 r2 r3; go_simp; with_reducible rfl); (try (try simp only [Act.put, List.setIfInBounds_toArray, List.set_cons_zero, List.set_cons_succ]))))
                      (first | (refine Held.skip (i := 6) rfl (by kernel_rfl) (fun _ _ _ h => h) rfl ?_; (try (try simp only [Act.put, List.setIfInBounds_toArray, List.set_cons_zero, List.set_cons_succ]))) | (refine Held.take (i := 6) (v := ?_) rfl (by kernel_rfl) (fun _ _ _ h => h) rfl ?_ ?_; rotate_left; (intro w hS; have hE := hS.1; have hr := Hnn.out.after hE; have r0 := hr.cell 0; have r1 := hr.cell 1; have r2 := hr.cell 2; have r3 := hr.cell 3; simp at r0 r1 r2 r3; go_simp; with_reducible rfl); (try (try simp only [Act.put, List.setIfInBounds_toArray, List.set_cons_zero, List.set_cons_succ]))))
                      (first | (refine Held.skip (i := 7) rfl (by kernel_rfl) (fun _ _ _ h => h) rfl ?_; (try (try simp only [Act.put, List.setIfInBounds_toArray, List.set_cons_zero, List.set_cons_succ]))) | (refine Held.take (i := 7) (v := ?_) rfl (by kernel_rfl) (fun _ _ _ h => h) rfl ?_ ?_; rotate_left; (intro w hS; have hE := hS.1; have hr := Hnn.out.after hE; have r0 := hr.cell 0; have r1 := hr.cell 1; have r2 := hr.cell 2; have r3 := hr.cell 3; simp at r0 r1 r2 r3; go_simp; with_reducible rfl); (try (try simp only [Act.put, List.setIfInBounds_toArray, List.set_cons_zero, List.set_cons_succ]))))
                      refine Held.one (i := 10) (by kernel_rfl) ?_
                      · refine HeldOp.step (i := 10) rfl rfl ?_
                        intro wcx hSc
                        obtain ⟨c0, c1, c2, c3, hblk⟩ := hSc.2.1
                        refine ⟨undef, ((((wcx.setCell ⟨g8, 0, none⟩ (.int .u64 (wd q 0 : Nat))).setCell ⟨g8, 1, none⟩ (.int .u64 (wd q 1 : Nat))).setCell ⟨g8, 2, none⟩ (.int .u64 (wd q 2 : Nat))).setCell ⟨g8, 3, none⟩ (.int .u64 (wd q 3 : Nat))), .inr ⟨?_, rfl⟩, (fun w' => Ext wnn w' ∧ IsBlk w' g8 25 #[.int .u64 (wd q 0 : Nat), .int .u64 (wd q 1 : Nat), .int .u64 (wd q 2 : Nat), .int .u64 (wd q 3 : Nat)] ∧ Four w' g9), ⟨bel4 hSc.1 hg8, stored4 hblk, Four.far4 (hSc.2.2) (by omega)⟩, fun w h => ⟨h.1, ⟨_, _, _, _, h.2.1⟩, h.2.2⟩, ?_⟩
                        · have b0 := hblk.cell 0
                          have b1 := hblk.cell 1
                          have b2 := hblk.cell 2
                          have b3 := hblk.cell 3
                          simp at b0 b1 b2 b3
                          have frb := hblk.free
                          have ltb := hblk.lt
                          go_simp
                        clear hSc hblk
                        (try simp only [Act.put])
                        refine Held.one (i := 11) (by kernel_rfl) ?_
                        · refine HeldOp.step (i := 11) rfl rfl ?_
                          intro wcx hSc
                          obtain ⟨c0, c1, c2, c3, hblk⟩ := hSc.2.2
                          refine ⟨undef, ((((wcx.setCell ⟨g9, 0, none⟩ (.int .u64 (wd r 0 : Nat))).setCell ⟨g9, 1, none⟩ (.int .u64 (wd r 1 : Nat))).setCell ⟨g9, 2, none⟩ (.int .u64 (wd r 2 : Nat))).setCell ⟨g9, 3, none⟩ (.int .u64 (wd r 3 : Nat))), .inr ⟨?_, rfl⟩, (fun w' => Ext wnn w' ∧ IsBlk w' g8 25 #[.int .u64 (wd q 0 : Nat), .int .u64 (wd q 1 : Nat), .int .u64 (wd q 2 : Nat), .int .u64 (wd q 3 : Nat)] ∧ IsBlk w' g9 25 #[.int .u64 (wd r 0 : Nat), .int .u64 (wd r 1 : Nat), .int .u64 (wd r 2 : Nat), .int .u64 (wd r 3 : Nat)]), ⟨bel4 hSc.1 hg9, far4 (hSc.2.1) (by omega), stored4 hblk⟩, fun w h => ⟨h.1, h.2.1, ⟨_, _, _, _, h.2.2⟩⟩, ?_⟩
                          · have b0 := hblk.cell 0
                            have b1 := hblk.cell 1
                            have b2 := hblk.cell 2
                            have b3 := hblk.cell 3
                            simp at b0 b1 b2 b3
                            have frb := hblk.free
                            have ltb := hblk.lt
                            go_simp
                          clear hSc hblk
                          (try simp only [Act.put])
                          (first | (refine Held.skip (i := 12) rfl (by kernel_rfl) (fun _ _ _ h => h) rfl ?_; (try (try simp only [Act.put, List.setIfInBounds_toArray, List.set_cons_zero, List.set_cons_succ]))) | (refine Held.take (i := 12) (v := ?_) rfl (by kernel_rfl) (fun _ _ _ h => h) rfl ?_ ?_; rotate_left; (intro w hS; have hE := hS.1; have hr := Hnn.out.after hE; have r0 := hr.cell 0; have r1 := hr.cell 1; have r2 := hr.cell 2; have r3 := hr.cell 3; simp at r0 r1 r2 r3; go_simp; with_reducible rfl); (try (try simp only [Act.put, List.setIfInBounds_toArray, List.set_cons_zero, List.set_cons_succ]))))
                          refine Held.done (by kernel_rfl) ?_
                          intro wz hz
                          have hne : g8 ≠ g9 := by omega
                          go_wp2_with fail
                          go_meet
                          exact ⟨g8, g9, rfl, rfl, rfl, hg8, hz.1, hz.2.1, hz.2.2⟩
                · refine HeldOp.step (i := 8) rfl rfl ?_
                  intro wcx hSc
                  have hg8 : wnn.heap.size ≤ wcx.heap.size := Below.size (hSc.1)
                  have hn8 : g9 < wcx.heap.size := Four.lt (hSc.2)
                  refine ⟨.pointer (some ⟨wcx.heap.size, 0, none⟩), wcx.alloc (.cells #[.int .u64 0, .int .u64 0, .int .u64 0, .int .u64 0] 25), .inl (by go_simp), (fun w' => Ext wnn w' ∧ Four w' wcx.heap.size ∧ Four w' g9), ⟨Below.alloc (hSc.1) (Below.size (hSc.1)) _, ⟨_, _, _, _, IsBlk.new _ _ _⟩, Four.alloc (hSc.2) _⟩, fun w h => ⟨h.1, h.2.2⟩, ?_⟩
                  generalize wcx.heap.size = g8 at *
                  clear hSc
                  (try simp only [Act.put, List.setIfInBounds_toArray, List.set_cons_zero, List.set_cons_succ])
                  refine Held.one (i := 1) (by kernel_rfl) ?_
                  · refine HeldOp.call (i := 1) (f := ?_) (args := ?_) rfl rfl ?_ ?_
                    rotate_left 2
                    · (intro w hS; go_simp; (first | with_reducible rfl | (refine ⟨?_, ?_⟩ <;> with_reducible rfl)))
                    intro wcx hSc
                    (with_reducible refine (K6.out _).mono ?_)
                    rintro e vc ⟨rfl, hb⟩
                    refine ⟨_, rfl, (fun w' => Ext wnn w' ∧ Four w' g8 ∧ Four w' g9), ⟨bel_on hSc.1 hb, hSc.2.1.on hb, hSc.2.2.on hb⟩, fun w h => h, ?_⟩
                    clear hSc hb
                    (try simp only [Act.put, List.setIfInBounds_toArray, List.set_cons_zero, List.set_cons_succ])
                    refine Held.one (i := 3) (by kernel_rfl) ?_
                    · refine HeldOp.call (i := 3) (f := ?_) (args := ?_) rfl rfl ?_ ?_
                      rotate_left 2
                      · (intro w hS; go_simp; (first | with_reducible rfl | (refine ⟨?_, ?_⟩ <;> with_reducible rfl)))
                      intro wcx hSc
                      (with_reducible refine (K7.out _).mono ?_)
                      rintro e vc ⟨rfl, hb⟩
                      refine ⟨_, rfl, (fun w' => Ext wnn w' ∧ Four w' g8 ∧ Four w' g9), ⟨bel_on hSc.1 hb, hSc.2.1.on hb, hSc.2.2.on hb⟩, fun w h => h, ?_⟩
                      clear hSc hb
                      (try simp only [Act.put, List.setIfInBounds_toArray, List.set_cons_zero, List.set_cons_succ])
                      (first | (refine Held.skip (i := 4) rfl (by kernel_rfl) (fun _ _ _ h => h) rfl ?_; (try (try simp only [Act.put, List.setIfInBounds_toArray, List.set_cons_zero, List.set_cons_succ]))) | (refine Held.take (i := 4) (v := ?_) rfl (by kernel_rfl) (fun _ _ _ h => h) rfl ?_ ?_; rotate_left; (intro w hS; have hE := hS.1; have hr := Hnn.out.after hE; have r0 := hr.cell 0; have r1 := hr.cell 1; have r2 := hr.cell 2; have r3 := hr.cell 3; simp at r0 r1 r2 r3; go_simp; with_reducible rfl); (try (try simp only [Act.put, List.setIfInBounds_toArray, List.set_cons_zero, List.set_cons_succ]))))
                      (first | (refine Held.skip (i := 5) rfl (by kernel_rfl) (fun _ _ _ h => h) rfl ?_; (try (try simp only [Act.put, List.setIfInBounds_toArray, List.set_cons_zero, List.set_cons_succ]))) | (refine Held.take (i := 5) (v := ?_) rfl (by kernel_rfl) (fun _ _ _ h => h) rfl ?_ ?_; rotate_left; (intro w hS; have hE := hS.1; have hr := Hnn.out.after hE; have r0 := hr.cell 0; have r1 := hr.cell 1; have r2 := hr.cell 2; have r3 := hr.cell 3; simp at r0 r1 r2 r3; go_simp; with_reducible rfl); (try (try simp only [Act.put, List.setIfInBounds_toArray, List.set_cons_zero, List.set_cons_succ]))))
                      (first | (refine Held.skip (i := 6) rfl (by kernel_rfl) (fun _ _ _ h => h) rfl ?_; (try (try simp only [Act.put, List.setIfInBounds_toArray, List.set_cons_zero, List.set_cons_succ]))) | (refine Held.take (i := 6) (v := ?_) rfl (by kernel_rfl) (fun _ _ _ h => h) rfl ?_ ?_; rotate_left; (intro w hS; have hE := hS.1; have hr := Hnn.out.after hE; have r0 := hr.cell 0; have r1 := hr.cell 1; have r2 := hr.cell 2; have r3 := hr.cell 3; simp at r0 r1 r2 r3; go_simp; with_reducible rfl); (try (try simp only [Act.put, List.setIfInBounds_toArray, List.set_cons_zero, List.set_cons_succ]))))
                      (first | (refine Held.skip (i := 7) rfl (by kernel_rfl) (fun _ _ _ h => h) rfl ?_; (try (try simp only [Act.put, List.setIfInBounds_toArray, List.set_cons_zero, List.set_cons_succ]))) | (refine Held.take (i := 7) (v := ?_) rfl (by kernel_rfl) (fun _ _ _ h => h) rfl ?_ ?_; rotate_left; (intro w hS; have hE := hS.1; have hr := Hnn.out.after hE; have r0 := hr.cell 0; have r1 := hr.cell 1; have r2 := hr.cell 2; have r3 := hr.cell 3; simp at r0 r1 r2 r3; go_simp; with_reducible rfl); (try (try simp only [Act.put, List.setIfInBounds_toArray, List.set_cons_zero, List.set_cons_succ]))))
                      refine Held.one (i := 10) (by kernel_rfl) ?_
                      · refine HeldOp.step (i := 10) rfl rfl ?_
                        intro wcx hSc
                        obtain ⟨c0, c1, c2, c3, hblk⟩ := hSc.2.1
                        refine ⟨undef, ((((wcx.setCell ⟨g8, 0, none⟩ (.int .u64 (wd q 0 : Nat))).setCell ⟨g8, 1, none⟩ (.int .u64 (wd q 1 : Nat))).setCell ⟨g8, 2, none⟩ (.int .u64 (wd q 2 : Nat))).setCell ⟨g8, 3, none⟩ (.int .u64 (wd q 3 : Nat))), .inr ⟨?_, rfl⟩, (fun w' => Ext wnn w' ∧ IsBlk w' g8 25 #[.int .u64 (wd q 0 : Nat), .int .u64 (wd q 1 : Nat), .int .u64 (wd q 2 : Nat), .int .u64 (wd q 3 : Nat)] ∧ Four w' g9), ⟨bel4 hSc.1 hg8, stored4 hblk, Four.far4 (hSc.2.2) (by omega)⟩, fun w h => ⟨h.1, ⟨_, _, _, _, h.2.1⟩, h.2.2⟩, ?_⟩
                        · have b0 := hblk.cell 0
                          have b1 := hblk.cell 1
                          have b2 := hblk.cell 2
                          have b3 := hblk.cell 3
                          simp at b0 b1 b2 b3
                          have frb := hblk.free
                          have ltb := hblk.lt
                          go_simp
                        clear hSc hblk
                        (try simp only [Act.put])
                        refine Held.one (i := 11) (by kernel_rfl) ?_
                        · refine HeldOp.step (i := 11) rfl rfl ?_
                          intro wcx hSc
                          obtain ⟨c0, c1, c2, c3, hblk⟩ := hSc.2.2
                          refine ⟨undef, ((((wcx.setCell ⟨g9, 0, none⟩ (.int .u64 (wd r 0 : Nat))).setCell ⟨g9, 1, none⟩ (.int .u64 (wd r 1 : Nat))).setCell ⟨g9, 2, none⟩ (.int .u64 (wd r 2 : Nat))).setCell ⟨g9, 3, none⟩ (.int .u64 (wd r 3 : Nat))), .inr ⟨?_, rfl⟩, (fun w' => Ext wnn w' ∧ IsBlk w' g8 25 #[.int .u64 (wd q 0 : Nat), .int .u64 (wd q 1 : Nat), .int .u64 (wd q 2 : Nat), .int .u64 (wd q 3 : Nat)] ∧ IsBlk w' g9 25 #[.int .u64 (wd r 0 : Nat), .int .u64 (wd r 1 : Nat), .int .u64 (wd r 2 : Nat), .int .u64 (wd r 3 : Nat)]), ⟨bel4 hSc.1 hg9, far4 (hSc.2.1) (by omega), stored4 hblk⟩, fun w h => ⟨h.1, h.2.1, ⟨_, _, _, _, h.2.2⟩⟩, ?_⟩
                          · have b0 := hblk.cell 0
                            have b1 := hblk.cell 1
                            have b2 := hblk.cell 2
                            have b3 := hblk.cell 3
                            simp at b0 b1 b2 b3
                            have frb := hblk.free
                            have ltb := hblk.lt
                            go_simp
                          clear hSc hblk
                          (try simp only [Act.put])
                          (first | (refine Held.skip (i := 12) rfl (by kernel_rfl) (fun _ _ _ h => h) rfl ?_; (try (try simp only [Act.put, List.setIfInBounds_toArray, List.set_cons_zero, List.set_cons_succ]))) | (refine Held.take (i := 12) (v := ?_) rfl (by kernel_rfl) (fun _ _ _ h => h) rfl ?_ ?_; rotate_left; (intro w hS; have hE := hS.1; have hr := Hnn.out.after hE; have r0 := hr.cell 0; have r1 := hr.cell 1; have r2 := hr.cell 2; have r3 := hr.cell 3; simp at r0 r1 r2 r3; go_simp; with_reducible rfl); (try (try simp only [Act.put, List.setIfInBounds_toArray, List.set_cons_zero, List.set_cons_succ]))))
                          refine Held.done (by kernel_rfl) ?_
                          intro wz hz
                          have hne : g8 ≠ g9 := by omega
                          go_wp2_with fail
                          go_meet
                          exact ⟨g8, g9, rfl, rfl, rfl, hg8, hz.1, hz.2.1, hz.2.2⟩
            case rest =>
              obtain ⟨gq, gr, rfl, rfl, rfl, hgq, hx0, hq0, hr0⟩ := hcut
              rename World => wqr
              have hvq : gv ≠ gq := by have := Hv6.out.lt; omega
              have hwq : w.heap.size ≤ gq := by have := HB6.out.size; omega
              have Hi7 := Lib.hid (Hi6.out.after hx0)
              have Hh7 := Lib.hid (Hh6.out.after hx0)
              have Hx7 := Lib.hid (Hx6.out.after hx0)
              have Hy7 := Lib.hid (Hy6.out.after hx0)
              have Hv7 := Lib.hid (Hv6.out.after hx0)
              have Hu7 := Lib.hid (Hu6.out.after hx0)
              have Hnn7 := Lib.hid (Hnn.out.after hx0)
              have HB7 := Lib.hid (bel_on HB6.out hx0)
              clear Hi6 Hh6 Hx6 Hy6 Hv6 Hu6 Hnn HB6
              have Hqq := Lib.hid hq0
              have Hrr := Lib.hid hr0
              clear hx0 hq0 hr0
              go_upto_region 15 with fail
              go_cut [18] (fun sp wx => ∃ g : Nat, sp = .pointer (some ⟨g, 0, none⟩) ∧ wqr.heap.size ≤ g ∧ Ext wqr wx ∧ IsBlk wx g 25 #[.int .u64 (wd R1 0 : Nat), .int .u64 (wd R1 1 : Nat), .int .u64 (wd R1 2 : Nat), .int .u64 (wd R1 3 : Nat)])
              case first =>
                refine Held.start 9 (Ext wqr) (by kernel_rfl) rfl (Below.refl _ _).drew ?_
                (first | (refine Held.skip (i := 0) rfl (by kernel_rfl) (fun _ _ _ h => h) rfl ?_; (try (try simp only [Act.put, List.setIfInBounds_toArray, List.set_cons_zero, List.set_cons_succ]))) | (refine Held.take (i := 0) (v := ?_) rfl (by kernel_rfl) (fun _ _ _ h => h) rfl ?_ ?_; rotate_left; (intro w hS; have hE := hS; have hr := Hrr.out.after hE; have r0 := hr.cell 0; have r1 := hr.cell 1; have r2 := hr.cell 2; have r3 := hr.cell 3; simp at r0 r1 r2 r3; go_simp; with_reducible rfl); (try (try simp only [Act.put, List.setIfInBounds_toArray, List.set_cons_zero, List.set_cons_succ]))))
                refine Held.two (i := 1) (j := 6) (by kernel_rfl) ?_ ?_
                · refine HeldOp.call (i := 1) (f := ?_) (args := ?_) rfl rfl ?_ ?_
                  rotate_left 2
                  · (intro w hS; go_simp; (first | with_reducible rfl | (refine ⟨?_, ?_⟩ <;> with_reducible rfl)))
                  intro wcx hSc
                  (with_reducible refine (KO.out _).mono ?_)
                  rintro e vc ⟨rfl, hb⟩
                  refine ⟨_, rfl, (Ext wqr), bel_on hSc hb, fun w h => h, ?_⟩
                  clear hSc hb
                  (try simp only [Act.put, List.setIfInBounds_toArray, List.set_cons_zero, List.set_cons_succ])
                  refine Held.two (i := 2) (j := 6) (by kernel_rfl) ?_ ?_
                  · refine HeldOp.call (i := 2) (f := ?_) (args := ?_) rfl rfl ?_ ?_
                    rotate_left 2
                    · (intro w hS; go_simp; (first | with_reducible rfl | (refine ⟨?_, ?_⟩ <;> with_reducible rfl)))
                    intro wcx hSc
                    (with_reducible refine (K8.out _).mono ?_)
                    rintro e vc ⟨rfl, hb⟩
                    refine ⟨_, rfl, (Ext wqr), bel_on hSc hb, fun w h => h, ?_⟩
                    clear hSc hb
                    (try simp only [Act.put, List.setIfInBounds_toArray, List.set_cons_zero, List.set_cons_succ])
                    (first | (refine Held.skip (i := 3) rfl (by kernel_rfl) (fun _ _ _ h => h) rfl ?_; (try (try simp only [Act.put, List.setIfInBounds_toArray, List.set_cons_zero, List.set_cons_succ]))) | (refine Held.take (i := 3) (v := ?_) rfl (by kernel_rfl) (fun _ _ _ h => h) rfl ?_ ?_; rotate_left; (intro w hS; have hE := hS; have hr := Hrr.out.after hE; have r0 := hr.cell 0; have r1 := hr.cell 1; have r2 := hr.cell 2; have r3 := hr.cell 3; simp at r0 r1 r2 r3; go_simp; with_reducible rfl); (try (try simp only [Act.put, List.setIfInBounds_toArray, List.set_cons_zero, List.set_cons_succ]))))
                    (first | (refine Held.skip (i := 4) rfl (by kernel_rfl) (fun _ _ _ h => h) rfl ?_; (try (try simp only [Act.put, List.setIfInBounds_toArray, List.set_cons_zero, List.set_cons_succ]))) | (refine Held.take (i := 4) (v := ?_) rfl (by kernel_rfl) (fun _ _ _ h => h) rfl ?_ ?_; rotate_left; (intro w hS; have hE := hS; have hr := Hrr.out.after hE; have r0 := hr.cell 0; have r1 := hr.cell 1; have r2 := hr.cell 2; have r3 := hr.cell 3; simp at r0 r1 r2 r3; go_simp; with_reducible rfl); (try (try simp only [Act.put, List.setIfInBounds_toArray, List.set_cons_zero, List.set_cons_succ]))))
                    (first | (refine Held.skip (i := 5) rfl (by kernel_rfl) (fun _ _ _ h => h) rfl ?_; (try (try simp only [Act.put, List.setIfInBounds_toArray, List.set_cons_zero, List.set_cons_succ]))) | (refine Held.take (i := 5) (v := ?_) rfl (by kernel_rfl) (fun _ _ _ h => h) rfl ?_ ?_; rotate_left; (intro w hS; have hE := hS; have hr := Hrr.out.after hE; have r0 := hr.cell 0; have r1 := hr.cell 1; have r2 := hr.cell 2; have r3 := hr.cell 3; simp at r0 r1 r2 r3; go_simp; with_reducible rfl); (try (try simp only [Act.put, List.setIfInBounds_toArray, List.set_cons_zero, List.set_cons_succ]))))
                    refine Held.one (i := 6) (by kernel_rfl) ?_
                    · refine HeldOp.step (i := 6) rfl rfl ?_
                      intro wcx hSc
                      have hg6 : wqr.heap.size ≤ wcx.heap.size := Below.size (hSc)
                      refine ⟨.pointer (some ⟨wcx.heap.size, 0, none⟩), wcx.alloc (.cells #[.int .u64 0, .int .u64 0, .int .u64 0, .int .u64 0] 25), .inl (by go_simp), (fun w' => Ext wqr w' ∧ Four w' wcx.heap.size), ⟨Below.alloc (hSc) (Below.size (hSc)) _, ⟨_, _, _, _, IsBlk.new _ _ _⟩⟩, fun w h => h.1, ?_⟩
                      generalize wcx.heap.size = g6 at *
                      clear hSc
                      (try simp only [Act.put, List.setIfInBounds_toArray, List.set_cons_zero, List.set_cons_succ])
                      refine Held.one (i := 7) (by kernel_rfl) ?_
                      · refine HeldOp.step (i := 7) rfl rfl ?_
                        intro wcx hSc
                        obtain ⟨c0, c1, c2, c3, hblk⟩ := hSc.2
                        refine ⟨undef, ((((wcx.setCell ⟨g6, 0, none⟩ (.int .u64 (wd R1 0 : Nat))).setCell ⟨g6, 1, none⟩ (.int .u64 (wd R1 1 : Nat))).setCell ⟨g6, 2, none⟩ (.int .u64 (wd R1 2 : Nat))).setCell ⟨g6, 3, none⟩ (.int .u64 (wd R1 3 : Nat))), .inr ⟨?_, rfl⟩, (fun w' => Ext wqr w' ∧ IsBlk w' g6 25 #[.int .u64 (wd R1 0 : Nat), .int .u64 (wd R1 1 : Nat), .int .u64 (wd R1 2 : Nat), .int .u64 (wd R1 3 : Nat)]), ⟨bel4 hSc.1 hg6, stored4 hblk⟩, fun w h => ⟨h.1, ⟨_, _, _, _, h.2⟩⟩, ?_⟩
                        · have b0 := hblk.cell 0
                          have b1 := hblk.cell 1
                          have b2 := hblk.cell 2
                          have b3 := hblk.cell 3
                          simp at b0 b1 b2 b3
                          have frb := hblk.free
                          have ltb := hblk.lt
                          go_simp
                        clear hSc hblk
                        (try simp only [Act.put])
                        (first | (refine Held.skip (i := 8) rfl (by kernel_rfl) (fun _ _ _ h => h) rfl ?_; (try (try simp only [Act.put, List.setIfInBounds_toArray, List.set_cons_zero, List.set_cons_succ]))) | (refine Held.take (i := 8) (v := ?_) rfl (by kernel_rfl) (fun _ _ _ h => h) rfl ?_ ?_; rotate_left; (intro w hS; have hE := hS.1; have hr := Hrr.out.after hE; have r0 := hr.cell 0; have r1 := hr.cell 1; have r2 := hr.cell 2; have r3 := hr.cell 3; simp at r0 r1 r2 r3; go_simp; with_reducible rfl); (try (try simp only [Act.put, List.setIfInBounds_toArray, List.set_cons_zero, List.set_cons_succ]))))
                        refine Held.done (by kernel_rfl) ?_
                        intro wz hz
                        go_wp2_with fail
                        go_meet
                        exact ⟨g6, rfl, hg6, hz.1, hz.2⟩
                  · refine HeldOp.step (i := 6) rfl rfl ?_
                    intro wcx hSc
                    have hg6 : wqr.heap.size ≤ wcx.heap.size := Below.size (hSc)
                    refine ⟨.pointer (some ⟨wcx.heap.size, 0, none⟩), wcx.alloc (.cells #[.int .u64 0, .int .u64 0, .int .u64 0, .int .u64 0] 25), .inl (by go_simp), (fun w' => Ext wqr w' ∧ Four w' wcx.heap.size), ⟨Below.alloc (hSc) (Below.size (hSc)) _, ⟨_, _, _, _, IsBlk.new _ _ _⟩⟩, fun w h => h.1, ?_⟩
                    generalize wcx.heap.size = g6 at *
                    clear hSc
                    (try simp only [Act.put, List.setIfInBounds_toArray, List.set_cons_zero, List.set_cons_succ])
                    refine Held.one (i := 2) (by kernel_rfl) ?_
                    · refine HeldOp.call (i := 2) (f := ?_) (args := ?_) rfl rfl ?_ ?_
                      rotate_left 2
                      · (intro w hS; go_simp; (first | with_reducible rfl | (refine ⟨?_, ?_⟩ <;> with_reducible rfl)))
                      intro wcx hSc
                      (with_reducible refine (K8.out _).mono ?_)
                      rintro e vc ⟨rfl, hb⟩
                      refine ⟨_, rfl, (fun w' => Ext wqr w' ∧ Four w' g6), ⟨bel_on hSc.1 hb, hSc.2.on hb⟩, fun w h => h, ?_⟩
                      clear hSc hb
                      (try simp only [Act.put, List.setIfInBounds_toArray, List.set_cons_zero, List.set_cons_succ])
                      (first | (refine Held.skip (i := 3) rfl (by kernel_rfl) (fun _ _ _ h => h) rfl ?_; (try (try simp only [Act.put, List.setIfInBounds_toArray, List.set_cons_zero, List.set_cons_succ]))) | (refine Held.take (i := 3) (v := ?_) rfl (by kernel_rfl) (fun _ _ _ h => h) rfl ?_ ?_; rotate_left; (intro w hS; have hE := hS.1; have hr := Hrr.out.after hE; have r0 := hr.cell 0; have r1 := hr.cell 1; have r2 := hr.cell 2; have r3 := hr.cell 3; simp at r0 r1 r2 r3; go_simp; with_reducible rfl); (try (try simp only [Act.put, List.setIfInBounds_toArray, List.set_cons_zero, List.set_cons_succ]))))
                      (first | (refine Held.skip (i := 4) rfl (by kernel_rfl) (fun _ _ _ h => h) rfl ?_; (try (try simp only [Act.put, List.setIfInBounds_toArray, List.set_cons_zero, List.set_cons_succ]))) | (refine Held.take (i := 4) (v := ?_) rfl (by kernel_rfl) (fun _ _ _ h => h) rfl ?_ ?_; rotate_left; (intro w hS; have hE := hS.1; have hr := Hrr.out.after hE; have r0 := hr.cell 0; have r1 := hr.cell 1; have r2 := hr.cell 2; have r3 := hr.cell 3; simp at r0 r1 r2 r3; go_simp; with_reducible rfl); (try (try simp only [Act.put, List.setIfInBounds_toArray, List.set_cons_zero, List.set_cons_succ]))))
                      (first | (refine Held.skip (i := 5) rfl (by kernel_rfl) (fun _ _ _ h => h) rfl ?_; (try (try simp only [Act.put, List.setIfInBounds_toArray, List.set_cons_zero, List.set_cons_succ]))) | (refine Held.take (i := 5) (v := ?_) rfl (by kernel_rfl) (fun _ _ _ h => h) rfl ?_ ?_; rotate_left; (intro w hS; have hE := hS.1; have hr := Hrr.out.after hE; have r0 := hr.cell 0; have r1 := hr.cell 1; have r2 := hr.cell 2; have r3 := hr.cell 3; simp at r0 r1 r2 r3; go_simp; with_reducible rfl); (try (try simp only [Act.put, List.setIfInBounds_toArray, List.set_cons_zero, List.set_cons_succ]))))
                      refine Held.one (i := 7) (by kernel_rfl) ?_
                      · refine HeldOp.step (i := 7) rfl rfl ?_
                        intro wcx hSc
                        obtain ⟨c0, c1, c2, c3, hblk⟩ := hSc.2
                        refine ⟨undef, ((((wcx.setCell ⟨g6, 0, none⟩ (.int .u64 (wd R1 0 : Nat))).setCell ⟨g6, 1, none⟩ (.int .u64 (wd R1 1 : Nat))).setCell ⟨g6, 2, none⟩ (.int .u64 (wd R1 2 : Nat))).setCell ⟨g6, 3, none⟩ (.int .u64 (wd R1 3 : Nat))), .inr ⟨?_, rfl⟩, (fun w' => Ext wqr w' ∧ IsBlk w' g6 25 #[.int .u64 (wd R1 0 : Nat), .int .u64 (wd R1 1 : Nat), .int .u64 (wd R1 2 : Nat), .int .u64 (wd R1 3 : Nat)]), ⟨bel4 hSc.1 hg6, stored4 hblk⟩, fun w h => ⟨h.1, ⟨_, _, _, _, h.2⟩⟩, ?_⟩
                        · have b0 := hblk.cell 0
                          have b1 := hblk.cell 1
                          have b2 := hblk.cell 2
                          have b3 := hblk.cell 3
                          simp at b0 b1 b2 b3
                          have frb := hblk.free
                          have ltb := hblk.lt
                          go_simp
                        clear hSc hblk
                        (try simp only [Act.put])
                        (first | (refine Held.skip (i := 8) rfl (by kernel_rfl) (fun _ _ _ h => h) rfl ?_; (try (try simp only [Act.put, List.setIfInBounds_toArray, List.set_cons_zero, List.set_cons_succ]))) | (refine Held.take (i := 8) (v := ?_) rfl (by kernel_rfl) (fun _ _ _ h => h) rfl ?_ ?_; rotate_left; (intro w hS; have hE := hS.1; have hr := Hrr.out.after hE; have r0 := hr.cell 0; have r1 := hr.cell 1; have r2 := hr.cell 2; have r3 := hr.cell 3; simp at r0 r1 r2 r3; go_simp; with_reducible rfl); (try (try simp only [Act.put, List.setIfInBounds_toArray, List.set_cons_zero, List.set_cons_succ]))))
                        refine Held.done (by kernel_rfl) ?_
                        intro wz hz
                        go_wp2_with fail
                        go_meet
                        exact ⟨g6, rfl, hg6, hz.1, hz.2⟩
                · refine HeldOp.step (i := 6) rfl rfl ?_
                  intro wcx hSc
                  have hg6 : wqr.heap.size ≤ wcx.heap.size := Below.size (hSc)
                  refine ⟨.pointer (some ⟨wcx.heap.size, 0, none⟩), wcx.alloc (.cells #[.int .u64 0, .int .u64 0, .int .u64 0, .int .u64 0] 25), .inl (by go_simp), (fun w' => Ext wqr w' ∧ Four w' wcx.heap.size), ⟨Below.alloc (hSc) (Below.size (hSc)) _, ⟨_, _, _, _, IsBlk.new _ _ _⟩⟩, fun w h => h.1, ?_⟩
                  generalize wcx.heap.size = g6 at *
                  clear hSc
                  (try simp only [Act.put, List.setIfInBounds_toArray, List.set_cons_zero, List.set_cons_succ])
                  refine Held.one (i := 1) (by kernel_rfl) ?_
                  · refine HeldOp.call (i := 1) (f := ?_) (args := ?_) rfl rfl ?_ ?_
                    rotate_left 2
                    · (intro w hS; go_simp; (first | with_reducible rfl | (refine ⟨?_, ?_⟩ <;> with_reducible rfl)))
                    intro wcx hSc
                    (with_reducible refine (KO.out _).mono ?_)
                    rintro e vc ⟨rfl, hb⟩
                    refine ⟨_, rfl, (fun w' => Ext wqr w' ∧ Four w' g6), ⟨bel_on hSc.1 hb, hSc.2.on hb⟩, fun w h => h, ?_⟩
                    clear hSc hb
                    (try simp only [Act.put, List.setIfInBounds_toArray, List.set_cons_zero, List.set_cons_succ])
                    refine Held.one (i := 2) (by kernel_rfl) ?_
                    · refine HeldOp.call (i := 2) (f := ?_) (args := ?_) rfl rfl ?_ ?_
                      rotate_left 2
                      · (intro w hS; go_simp; (first | with_reducible rfl | (refine ⟨?_, ?_⟩ <;> with_reducible rfl)))
                      intro wcx hSc
                      (with_reducible refine (K8.out _).mono ?_)
                      rintro e vc ⟨rfl, hb⟩
                      refine ⟨_, rfl, (fun w' => Ext wqr w' ∧ Four w' g6), ⟨bel_on hSc.1 hb, hSc.2.on hb⟩, fun w h => h, ?_⟩
                      clear hSc hb
                      (try simp only [Act.put, List.setIfInBounds_toArray, List.set_cons_zero, List.set_cons_succ])
                      (first | (refine Held.skip (i := 3) rfl (by kernel_rfl) (fun _ _ _ h => h) rfl ?_; (try (try simp only [Act.put, List.setIfInBounds_toArray, List.set_cons_zero, List.set_cons_succ]))) | (refine Held.take (i := 3) (v := ?_) rfl (by kernel_rfl) (fun _ _ _ h => h) rfl ?_ ?_; rotate_left; (intro w hS; have hE := hS.1; have hr := Hrr.out.after hE; have r0 := hr.cell 0; have r1 := hr.cell 1; have r2 := hr.cell 2; have r3 := hr.cell 3; simp at r0 r1 r2 r3; go_simp; with_reducible rfl); (try (try simp only [Act.put, List.setIfInBounds_toArray, List.set_cons_zero, List.set_cons_succ]))))
                      (first | (refine Held.skip (i := 4) rfl (by kernel_rfl) (fun _ _ _ h => h) rfl ?_; (try (try simp only [Act.put, List.setIfInBounds_toArray, List.set_cons_zero, List.set_cons_succ]))) | (refine Held.take (i := 4) (v := ?_) rfl (by kernel_rfl) (fun _ _ _ h => h) rfl ?_ ?_; rotate_left; (intro w hS; have hE := hS.1; have hr := Hrr.out.after hE; have r0 := hr.cell 0; have r1 := hr.cell 1; have r2 := hr.cell 2; have r3 := hr.cell 3; simp at r0 r1 r2 r3; go_simp; with_reducible rfl); (try (try simp only [Act.put, List.setIfInBounds_toArray, List.set_cons_zero, List.set_cons_succ]))))
                      (first | (refine Held.skip (i := 5) rfl (by kernel_rfl) (fun _ _ _ h => h) rfl ?_; (try (try simp only [Act.put, List.setIfInBounds_toArray, List.set_cons_zero, List.set_cons_succ]))) | (refine Held.take (i := 5) (v := ?_) rfl (by kernel_rfl) (fun _ _ _ h => h) rfl ?_ ?_; rotate_left; (intro w hS; have hE := hS.1; have hr := Hrr.out.after hE; have r0 := hr.cell 0; have r1 := hr.cell 1; have r2 := hr.cell 2; have r3 := hr.cell 3; simp at r0 r1 r2 r3; go_simp; with_reducible rfl); (try (try simp only [Act.put, List.setIfInBounds_toArray, List.set_cons_zero, List.set_cons_succ]))))
                      refine Held.one (i := 7) (by kernel_rfl) ?_
                      · refine HeldOp.step (i := 7) rfl rfl ?_
                        intro wcx hSc
                        obtain ⟨c0, c1, c2, c3, hblk⟩ := hSc.2
                        refine ⟨undef, ((((wcx.setCell ⟨g6, 0, none⟩ (.int .u64 (wd R1 0 : Nat))).setCell ⟨g6, 1, none⟩ (.int .u64 (wd R1 1 : Nat))).setCell ⟨g6, 2, none⟩ (.int .u64 (wd R1 2 : Nat))).setCell ⟨g6, 3, none⟩ (.int .u64 (wd R1 3 : Nat))), .inr ⟨?_, rfl⟩, (fun w' => Ext wqr w' ∧ IsBlk w' g6 25 #[.int .u64 (wd R1 0 : Nat), .int .u64 (wd R1 1 : Nat), .int .u64 (wd R1 2 : Nat), .int .u64 (wd R1 3 : Nat)]), ⟨bel4 hSc.1 hg6, stored4 hblk⟩, fun w h => ⟨h.1, ⟨_, _, _, _, h.2⟩⟩, ?_⟩
                        · have b0 := hblk.cell 0
                          have b1 := hblk.cell 1
                          have b2 := hblk.cell 2
                          have b3 := hblk.cell 3
                          simp at b0 b1 b2 b3
                          have frb := hblk.free
                          have ltb := hblk.lt
                          go_simp
                        clear hSc hblk
                        (try simp only [Act.put])
                        (first | (refine Held.skip (i := 8) rfl (by kernel_rfl) (fun _ _ _ h => h) rfl ?_; (try (try simp only [Act.put, List.setIfInBounds_toArray, List.set_cons_zero, List.set_cons_succ]))) | (refine Held.take (i := 8) (v := ?_) rfl (by kernel_rfl) (fun _ _ _ h => h) rfl ?_ ?_; rotate_left; (intro w hS; have hE := hS.1; have hr := Hrr.out.after hE; have r0 := hr.cell 0; have r1 := hr.cell 1; have r2 := hr.cell 2; have r3 := hr.cell 3; simp at r0 r1 r2 r3; go_simp; with_reducible rfl); (try (try simp only [Act.put, List.setIfInBounds_toArray, List.set_cons_zero, List.set_cons_succ]))))
                        refine Held.done (by kernel_rfl) ?_
                        intro wz hz
                        go_wp2_with fail
                        go_meet
                        exact ⟨g6, rfl, hg6, hz.1, hz.2⟩
              case rest =>
                obtain ⟨gtt, rfl, hgg, hx0, hn0⟩ := hcut
                rename World => wtt
                have Hi8 := Lib.hid (Hi7.out.after hx0)
                have Hh8 := Lib.hid (Hh7.out.after hx0)
                have Hx8 := Lib.hid (Hx7.out.after hx0)
                have Hy8 := Lib.hid (Hy7.out.after hx0)
                have Hv8 := Lib.hid (Hv7.out.after hx0)
                have Hu8 := Lib.hid (Hu7.out.after hx0)
                have Hnn8 := Lib.hid (Hnn7.out.after hx0)
                have Hqq8 := Lib.hid (Hqq.out.after hx0)
                have Hrr8 := Lib.hid (Hrr.out.after hx0)
                have HB8 := Lib.hid (bel_on HB7.out hx0)
                clear Hi7 Hh7 Hx7 Hy7 Hv7 Hu7 Hnn7 Hqq Hrr HB7
                have Htt := Lib.hid hn0
                clear hx0 hn0 hgg
                have hF := HF.out
                subst hF
                have htt := Htt.out
                have vtt0 := htt.cell 0
                have vtt1 := htt.cell 1
                have vtt2 := htt.cell 2
                have vtt3 := htt.cell 3
                simp at vtt0 vtt1 vtt2 vtt3
                have frvtt := htt.free
                have lvtt := htt.lt
                clear htt
                have hnn := Hnn8.out
                have vnn0 := hnn.cell 0
                have vnn1 := hnn.cell 1
                have vnn2 := hnn.cell 2
                have vnn3 := hnn.cell 3
                simp at vnn0 vnn1 vnn2 vnn3
                have frvnn := hnn.free
                have lvnn := hnn.lt
                clear hnn
                have hqq := Hqq8.out
                have vqq0 := hqq.cell 0
                have vqq1 := hqq.cell 1
                have vqq2 := hqq.cell 2
                have vqq3 := hqq.cell 3
                simp at vqq0 vqq1 vqq2 vqq3
                have frvqq := hqq.free
                have lvqq := hqq.lt
                clear hqq
                have hv := Hv8.out
                have vv0 := hv.cell 0
                have vv1 := hv.cell 1
                have vv2 := hv.cell 2
                have vv3 := hv.cell 3
                simp at vv0 vv1 vv2 vv3
                have frvv := hv.free
                have lvv := hv.lt
                clear hv
                go_wp2_with fail
                refine (AW.out _).mono ?_
                rintro e wz ⟨rfl, hbz⟩
                go_wp2_with fail
                go_ret
                exact ⟨rfl, bel_on HB8.out hbz⟩
end Go.Proofs.Ythmaijmjhfngpaa
