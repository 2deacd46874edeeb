/- The law's own product of two numbers, word by word. -/
import Derived.Test.YtncfgllcleidnaaWideBb
import Derived.Deep.DeepCutAuto
namespace Go.Proofs.Ytncfgllcleidnaa
open Go.RowKit

set_option maxRecDepth 100000 in
set_option maxHeartbeats 8000000 in
theorem times_any (b q : Nat) (w : World) (hb : b < w256) (hq : q < w256) (h : b * q < w256) :
    Calls Try.prog 37 #[.agg #[.int .u64 (wd b 0 : Nat), .int .u64 (wd b 1 : Nat), .int .u64 (wd b 2 : Nat), .int .u64 (wd b 3 : Nat)], .agg #[.int .u64 (wd q 0 : Nat), .int .u64 (wd q 1 : Nat), .int .u64 (wd q 2 : Nat), .int .u64 (wd q 3 : Nat)]] w (BRet (.tuple #[.agg #[.int .u64 (wd (b * q) 0 : Nat), .int .u64 (wd (b * q) 1 : Nat), .int .u64 (wd (b * q) 2 : Nat), .int .u64 (wd (b * q) 3 : Nat)], .bool true]) w) := by
  have e0 : b * lowW q 0 = 0 := by rw [lowW_zero, Nat.mul_zero]
  have e4 : b * lowW q 4 = b * q := by rw [lowW_four hq]
  have E0 := Lib.hid e0
  have E4 := Lib.hid e4
  clear e0 e4
  go_enter Try.func37, Try.ntmps37
  go_wp2_with fail
  go_loopw [7] (fun i wr => ∃ k : Nat, k ≤ 4 ∧ i = .int .i64 k ∧
    IsBlk wr w.heap.size 24 #[.int .u64 (wd b 0 : Nat), .int .u64 (wd b 1 : Nat), .int .u64 (wd b 2 : Nat), .int .u64 (wd b 3 : Nat)] ∧
    IsBlk wr (w.heap.size + 1) 24 #[.int .u64 (wd q 0 : Nat), .int .u64 (wd q 1 : Nat), .int .u64 (wd q 2 : Nat), .int .u64 (wd q 3 : Nat)] ∧
    IsBlk wr (w.heap.size + 1 + 1) 24 #[.int .u64 0, .int .u64 0, .int .u64 0, .int .u64 0] ∧
    IsBlk wr (w.heap.size + 1 + 1 + 1) 24 #[.int .u64 (wd (b * lowW q k) 0 : Nat), .int .u64 (wd (b * lowW q k) 1 : Nat), .int .u64 (wd (b * lowW q k) 2 : Nat), .int .u64 (wd (b * lowW q k) 3 : Nat)] ∧
    Below w.heap.size w wr) (fun i _ => 4 - (intOf i).toNat)
  case atStart =>
    refine ⟨0, by omega, rfl, (((IsBlk.newAt _ _ rfl).alloc _).alloc _).alloc _, ((IsBlk.newAt _ _ (by simp)).alloc _).alloc _, (IsBlk.newAt _ _ (by simp)).alloc _, ?_, by repeat' (first | exact Below.refl _ _ | refine bel_drewN ?_ _ | refine Below.drew ?_ | refine Below.alloc ?_ ?_ _ | refine Below.setCell ?_ ?_ _ | exact Nat.le_refl _ | (simp; done) | (simp; omega) | assumption)⟩
    rw [E0.out, ← zeros_blk]
    exact IsBlk.newAt _ _ (by simp)
  case round =>
    obtain ⟨k, hk, rfl, hA, hQ, hZ, hO, hB⟩ := hrel
    by_cases hlt : k < 4
    · obtain ⟨s1, s2, s3, s4, s5, s6, s7⟩ := times_step h hlt
      have KM := Lib.hid (fun w => mul_any b (wd q k) w hb (wd_lt q k))
      rw [s2, s3] at KM
      have KB := Lib.hid (fun w => bits_any (b * wd q k) w s1)
      have KS := Lib.hid (fun w => sh_any s1 ((64 * k : Nat) : Int) w)
      have KA := Lib.hid (fun w => add_any (b * lowW q k) (shiftN (b * wd q k) ((64 * k : Nat) : Int)) w s7 (shiftN_lt s1 _))
      rw [s5, s6] at KA
      rw [show ((64 * k : Nat) : Int) = 64 * (k : Int) from by omega] at KS KA
      have HA := Lib.hid hA
      have HQ := Lib.hid hQ
      have HZ := Lib.hid hZ
      have HO := Lib.hid hO
      have HB := Lib.hid hB
      have H4 := Lib.hid s4
      have hlr := hO.lt
      have HK := Lib.hid hlt
      clear s1 s2 s3 s4 s5 s6 s7 hA hQ hZ hO hB
      generalize hX : b * wd q k = X at *
      generalize hY : shiftN X (64 * (k : Int)) = Y at *
      generalize hP : b * lowW q (k + 1) = P at *
      generalize hO : b * lowW q k = O at *
      have HP := Lib.hid hP
      clear hX hY hP hO
      go_upto_region 5 with fail
      go_cut [8, 9] (fun s8 s9 wx => ∃ g : Nat, s8 = .pointer (some ⟨g, 0, none⟩) ∧ s9 = .int .u64 0 ∧ wr.heap.size ≤ g ∧ Ext wr wx ∧ IsBlk wx g 24 #[.int .u64 (wd X 0 : Nat), .int .u64 (wd X 1 : Nat), .int .u64 (wd X 2 : Nat), .int .u64 (wd X 3 : Nat)])
      case first =>
        refine Held.start 11 (Ext wr) (by kernel_rfl) rfl (Below.refl _ _).drew ?_
        (first | (refine Held.skip (i := 0) rfl (by kernel_rfl) (fun _ _ _ h => h) rfl ?_; (try (try simp only [Act.put, List.setIfInBounds_toArray, List.set_cons_zero, List.set_cons_succ]))) | (refine Held.take (i := 0) (v := ?_) rfl (by kernel_rfl) (fun _ _ _ h => h) rfl ?_ ?_; rotate_left; (intro w hS; have hE := hS; have hx := HA.out.after hE; have x0 := hx.cell 0; have x1 := hx.cell 1; have x2 := hx.cell 2; have x3 := hx.cell 3; simp at x0 x1 x2 x3; have cq := word_cell (HQ.out.after hE) HK.out; go_simp; with_reducible rfl); (try (try simp only [Act.put, List.setIfInBounds_toArray, List.set_cons_zero, List.set_cons_succ]))))
        (first | (refine Held.skip (i := 1) rfl (by kernel_rfl) (fun _ _ _ h => h) rfl ?_; (try (try simp only [Act.put, List.setIfInBounds_toArray, List.set_cons_zero, List.set_cons_succ]))) | (refine Held.take (i := 1) (v := ?_) rfl (by kernel_rfl) (fun _ _ _ h => h) rfl ?_ ?_; rotate_left; (intro w hS; have hE := hS; have hx := HA.out.after hE; have x0 := hx.cell 0; have x1 := hx.cell 1; have x2 := hx.cell 2; have x3 := hx.cell 3; simp at x0 x1 x2 x3; have cq := word_cell (HQ.out.after hE) HK.out; go_simp; with_reducible rfl); (try (try simp only [Act.put, List.setIfInBounds_toArray, List.set_cons_zero, List.set_cons_succ]))))
        (first | (refine Held.skip (i := 2) rfl (by kernel_rfl) (fun _ _ _ h => h) rfl ?_; (try (try simp only [Act.put, List.setIfInBounds_toArray, List.set_cons_zero, List.set_cons_succ]))) | (refine Held.take (i := 2) (v := ?_) rfl (by kernel_rfl) (fun _ _ _ h => h) rfl ?_ ?_; rotate_left; (intro w hS; have hE := hS; have hx := HA.out.after hE; have x0 := hx.cell 0; have x1 := hx.cell 1; have x2 := hx.cell 2; have x3 := hx.cell 3; simp at x0 x1 x2 x3; have cq := word_cell (HQ.out.after hE) HK.out; go_simp; with_reducible rfl); (try (try simp only [Act.put, List.setIfInBounds_toArray, List.set_cons_zero, List.set_cons_succ]))))
        (first | (refine Held.skip (i := 3) rfl (by kernel_rfl) (fun _ _ _ h => h) rfl ?_; (try (try simp only [Act.put, List.setIfInBounds_toArray, List.set_cons_zero, List.set_cons_succ]))) | (refine Held.take (i := 3) (v := ?_) rfl (by kernel_rfl) (fun _ _ _ h => h) rfl ?_ ?_; rotate_left; (intro w hS; have hE := hS; have hx := HA.out.after hE; have x0 := hx.cell 0; have x1 := hx.cell 1; have x2 := hx.cell 2; have x3 := hx.cell 3; simp at x0 x1 x2 x3; have cq := word_cell (HQ.out.after hE) HK.out; go_simp; with_reducible rfl); (try (try simp only [Act.put, List.setIfInBounds_toArray, List.set_cons_zero, List.set_cons_succ]))))
        refine Held.two (i := 4) (j := 8) (by kernel_rfl) ?_ ?_
        · refine HeldOp.call (i := 4) (f := ?_) (args := ?_) rfl rfl ?_ ?_
          rotate_left 2
          · (intro w hS; go_simp; (first | with_reducible rfl | (refine ⟨?_, ?_⟩ <;> with_reducible rfl)))
          intro wcx hSc
          (with_reducible refine (KM.out _).mono ?_)
          rintro e vc ⟨rfl, hb⟩
          refine ⟨_, rfl, (Ext wr), bel_on hSc hb, fun w h => h, ?_⟩
          clear hSc hb
          (try simp only [Act.put, List.setIfInBounds_toArray, List.set_cons_zero, List.set_cons_succ])
          (first | (refine Held.skip (i := 5) rfl (by kernel_rfl) (fun _ _ _ h => h) rfl ?_; (try (try simp only [Act.put, List.setIfInBounds_toArray, List.set_cons_zero, List.set_cons_succ]))) | (refine Held.take (i := 5) (v := ?_) rfl (by kernel_rfl) (fun _ _ _ h => h) rfl ?_ ?_; rotate_left; (intro w hS; have hE := hS; have hx := HA.out.after hE; have x0 := hx.cell 0; have x1 := hx.cell 1; have x2 := hx.cell 2; have x3 := hx.cell 3; simp at x0 x1 x2 x3; have cq := word_cell (HQ.out.after hE) HK.out; go_simp; with_reducible rfl); (try (try simp only [Act.put, List.setIfInBounds_toArray, List.set_cons_zero, List.set_cons_succ]))))
          (first | (refine Held.skip (i := 6) rfl (by kernel_rfl) (fun _ _ _ h => h) rfl ?_; (try (try simp only [Act.put, List.setIfInBounds_toArray, List.set_cons_zero, List.set_cons_succ]))) | (refine Held.take (i := 6) (v := ?_) rfl (by kernel_rfl) (fun _ _ _ h => h) rfl ?_ ?_; rotate_left; (intro w hS; have hE := hS; have hx := HA.out.after hE; have x0 := hx.cell 0; have x1 := hx.cell 1; have x2 := hx.cell 2; have x3 := hx.cell 3; simp at x0 x1 x2 x3; have cq := word_cell (HQ.out.after hE) HK.out; go_simp; with_reducible rfl); (try (try simp only [Act.put, List.setIfInBounds_toArray, List.set_cons_zero, List.set_cons_succ]))))
          (first | (refine Held.skip (i := 7) rfl (by kernel_rfl) (fun _ _ _ h => h) rfl ?_; (try (try simp only [Act.put, List.setIfInBounds_toArray, List.set_cons_zero, List.set_cons_succ]))) | (refine Held.take (i := 7) (v := ?_) rfl (by kernel_rfl) (fun _ _ _ h => h) rfl ?_ ?_; rotate_left; (intro w hS; have hE := hS; have hx := HA.out.after hE; have x0 := hx.cell 0; have x1 := hx.cell 1; have x2 := hx.cell 2; have x3 := hx.cell 3; simp at x0 x1 x2 x3; have cq := word_cell (HQ.out.after hE) HK.out; go_simp; with_reducible rfl); (try (try simp only [Act.put, List.setIfInBounds_toArray, List.set_cons_zero, List.set_cons_succ]))))
          refine Held.one (i := 8) (by kernel_rfl) ?_
          · refine HeldOp.step (i := 8) rfl rfl ?_
            intro wcx hSc
            have hg8 : wr.heap.size ≤ wcx.heap.size := Below.size (hSc)
            refine ⟨.pointer (some ⟨wcx.heap.size, 0, none⟩), wcx.alloc (.cells #[.int .u64 0, .int .u64 0, .int .u64 0, .int .u64 0] 24), .inl (by go_simp), (fun w' => Ext wr w' ∧ Four w' wcx.heap.size), ⟨Below.alloc (hSc) (Below.size (hSc)) _, ⟨_, _, _, _, IsBlk.new _ _ _⟩⟩, fun w h => h.1, ?_⟩
            generalize wcx.heap.size = g8 at *
            clear hSc
            (try simp only [Act.put, List.setIfInBounds_toArray, List.set_cons_zero, List.set_cons_succ])
            refine Held.one (i := 9) (by kernel_rfl) ?_
            · refine HeldOp.step (i := 9) rfl rfl ?_
              intro wcx hSc
              obtain ⟨c0, c1, c2, c3, hblk⟩ := hSc.2
              refine ⟨undef, ((((wcx.setCell ⟨g8, 0, none⟩ (.int .u64 (wd X 0 : Nat))).setCell ⟨g8, 1, none⟩ (.int .u64 (wd X 1 : Nat))).setCell ⟨g8, 2, none⟩ (.int .u64 (wd X 2 : Nat))).setCell ⟨g8, 3, none⟩ (.int .u64 (wd X 3 : Nat))), .inr ⟨?_, rfl⟩, (fun w' => Ext wr w' ∧ IsBlk w' g8 24 #[.int .u64 (wd X 0 : Nat), .int .u64 (wd X 1 : Nat), .int .u64 (wd X 2 : Nat), .int .u64 (wd X 3 : Nat)]), ⟨bel4 hSc.1 hg8, stored4 hblk⟩, fun w h => ⟨h.1, ⟨_, _, _, _, h.2⟩⟩, ?_⟩
              · have b0 := hblk.cell 0
                have b1 := hblk.cell 1
                have b2 := hblk.cell 2
                have b3 := hblk.cell 3
                simp at b0 b1 b2 b3
                have frb := hblk.free
                have ltb := hblk.lt
                go_simp
              clear hSc hblk
              (try simp only [Act.put, List.setIfInBounds_toArray, List.set_cons_zero, List.set_cons_succ])
              (first | (refine Held.skip (i := 10) rfl (by kernel_rfl) (fun _ _ _ h => h) rfl ?_; (try (try simp only [Act.put, List.setIfInBounds_toArray, List.set_cons_zero, List.set_cons_succ]))) | (refine Held.take (i := 10) (v := ?_) rfl (by kernel_rfl) (fun _ _ _ h => h) rfl ?_ ?_; rotate_left; (intro w hS; have hE := hS.1; have hx := HA.out.after hE; have x0 := hx.cell 0; have x1 := hx.cell 1; have x2 := hx.cell 2; have x3 := hx.cell 3; simp at x0 x1 x2 x3; have cq := word_cell (HQ.out.after hE) HK.out; go_simp; with_reducible rfl); (try (try simp only [Act.put, List.setIfInBounds_toArray, List.set_cons_zero, List.set_cons_succ]))))
              refine Held.done (by kernel_rfl) ?_
              intro wz hz
              go_wp2_with fail
              go_meet
              exact ⟨g8, rfl, rfl, hg8, hz.1, hz.2⟩
        · refine HeldOp.step (i := 8) rfl rfl ?_
          intro wcx hSc
          have hg8 : wr.heap.size ≤ wcx.heap.size := Below.size (hSc)
          refine ⟨.pointer (some ⟨wcx.heap.size, 0, none⟩), wcx.alloc (.cells #[.int .u64 0, .int .u64 0, .int .u64 0, .int .u64 0] 24), .inl (by go_simp), (fun w' => Ext wr w' ∧ Four w' wcx.heap.size), ⟨Below.alloc (hSc) (Below.size (hSc)) _, ⟨_, _, _, _, IsBlk.new _ _ _⟩⟩, fun w h => h.1, ?_⟩
          generalize wcx.heap.size = g8 at *
          clear hSc
          (try simp only [Act.put, List.setIfInBounds_toArray, List.set_cons_zero, List.set_cons_succ])
          refine Held.one (i := 4) (by kernel_rfl) ?_
          · refine HeldOp.call (i := 4) (f := ?_) (args := ?_) rfl rfl ?_ ?_
            rotate_left 2
            · (intro w hS; go_simp; (first | with_reducible rfl | (refine ⟨?_, ?_⟩ <;> with_reducible rfl)))
            intro wcx hSc
            (with_reducible refine (KM.out _).mono ?_)
            rintro e vc ⟨rfl, hb⟩
            refine ⟨_, rfl, (fun w' => Ext wr w' ∧ Four w' g8), ⟨bel_on hSc.1 hb, hSc.2.on hb⟩, fun w h => h, ?_⟩
            clear hSc hb
            (try simp only [Act.put, List.setIfInBounds_toArray, List.set_cons_zero, List.set_cons_succ])
            (first | (refine Held.skip (i := 5) rfl (by kernel_rfl) (fun _ _ _ h => h) rfl ?_; (try (try simp only [Act.put, List.setIfInBounds_toArray, List.set_cons_zero, List.set_cons_succ]))) | (refine Held.take (i := 5) (v := ?_) rfl (by kernel_rfl) (fun _ _ _ h => h) rfl ?_ ?_; rotate_left; (intro w hS; have hE := hS.1; have hx := HA.out.after hE; have x0 := hx.cell 0; have x1 := hx.cell 1; have x2 := hx.cell 2; have x3 := hx.cell 3; simp at x0 x1 x2 x3; have cq := word_cell (HQ.out.after hE) HK.out; go_simp; with_reducible rfl); (try (try simp only [Act.put, List.setIfInBounds_toArray, List.set_cons_zero, List.set_cons_succ]))))
            (first | (refine Held.skip (i := 6) rfl (by kernel_rfl) (fun _ _ _ h => h) rfl ?_; (try (try simp only [Act.put, List.setIfInBounds_toArray, List.set_cons_zero, List.set_cons_succ]))) | (refine Held.take (i := 6) (v := ?_) rfl (by kernel_rfl) (fun _ _ _ h => h) rfl ?_ ?_; rotate_left; (intro w hS; have hE := hS.1; have hx := HA.out.after hE; have x0 := hx.cell 0; have x1 := hx.cell 1; have x2 := hx.cell 2; have x3 := hx.cell 3; simp at x0 x1 x2 x3; have cq := word_cell (HQ.out.after hE) HK.out; go_simp; with_reducible rfl); (try (try simp only [Act.put, List.setIfInBounds_toArray, List.set_cons_zero, List.set_cons_succ]))))
            (first | (refine Held.skip (i := 7) rfl (by kernel_rfl) (fun _ _ _ h => h) rfl ?_; (try (try simp only [Act.put, List.setIfInBounds_toArray, List.set_cons_zero, List.set_cons_succ]))) | (refine Held.take (i := 7) (v := ?_) rfl (by kernel_rfl) (fun _ _ _ h => h) rfl ?_ ?_; rotate_left; (intro w hS; have hE := hS.1; have hx := HA.out.after hE; have x0 := hx.cell 0; have x1 := hx.cell 1; have x2 := hx.cell 2; have x3 := hx.cell 3; simp at x0 x1 x2 x3; have cq := word_cell (HQ.out.after hE) HK.out; go_simp; with_reducible rfl); (try (try simp only [Act.put, List.setIfInBounds_toArray, List.set_cons_zero, List.set_cons_succ]))))
            refine Held.one (i := 9) (by kernel_rfl) ?_
            · refine HeldOp.step (i := 9) rfl rfl ?_
              intro wcx hSc
              obtain ⟨c0, c1, c2, c3, hblk⟩ := hSc.2
              refine ⟨undef, ((((wcx.setCell ⟨g8, 0, none⟩ (.int .u64 (wd X 0 : Nat))).setCell ⟨g8, 1, none⟩ (.int .u64 (wd X 1 : Nat))).setCell ⟨g8, 2, none⟩ (.int .u64 (wd X 2 : Nat))).setCell ⟨g8, 3, none⟩ (.int .u64 (wd X 3 : Nat))), .inr ⟨?_, rfl⟩, (fun w' => Ext wr w' ∧ IsBlk w' g8 24 #[.int .u64 (wd X 0 : Nat), .int .u64 (wd X 1 : Nat), .int .u64 (wd X 2 : Nat), .int .u64 (wd X 3 : Nat)]), ⟨bel4 hSc.1 hg8, stored4 hblk⟩, fun w h => ⟨h.1, ⟨_, _, _, _, h.2⟩⟩, ?_⟩
              · have b0 := hblk.cell 0
                have b1 := hblk.cell 1
                have b2 := hblk.cell 2
                have b3 := hblk.cell 3
                simp at b0 b1 b2 b3
                have frb := hblk.free
                have ltb := hblk.lt
                go_simp
              clear hSc hblk
              (try simp only [Act.put, List.setIfInBounds_toArray, List.set_cons_zero, List.set_cons_succ])
              (first | (refine Held.skip (i := 10) rfl (by kernel_rfl) (fun _ _ _ h => h) rfl ?_; (try (try simp only [Act.put, List.setIfInBounds_toArray, List.set_cons_zero, List.set_cons_succ]))) | (refine Held.take (i := 10) (v := ?_) rfl (by kernel_rfl) (fun _ _ _ h => h) rfl ?_ ?_; rotate_left; (intro w hS; have hE := hS.1; have hx := HA.out.after hE; have x0 := hx.cell 0; have x1 := hx.cell 1; have x2 := hx.cell 2; have x3 := hx.cell 3; simp at x0 x1 x2 x3; have cq := word_cell (HQ.out.after hE) HK.out; go_simp; with_reducible rfl); (try (try simp only [Act.put, List.setIfInBounds_toArray, List.set_cons_zero, List.set_cons_succ]))))
              refine Held.done (by kernel_rfl) ?_
              intro wz hz
              go_wp2_with fail
              go_meet
              exact ⟨g8, rfl, rfl, hg8, hz.1, hz.2⟩
      case rest =>
        obtain ⟨g8, rfl, rfl, hg8, hx8, hX8⟩ := hcut
        have hA5 := HA.out.after hx8
        have hQ5 := HQ.out.after hx8
        have hZ5 := HZ.out.after hx8
        have hO5 := HO.out.after hx8
        have hB5 := bel_on HB.out hx8
        have HA := Lib.hid hA5
        have HQ := Lib.hid hQ5
        have HZ := Lib.hid hZ5
        have HO := Lib.hid hO5
        have HB := Lib.hid hB5
        have HX8 := Lib.hid hX8
        have cq := word_cell hQ5 HK.out
        have x0 := hX8.cell 0
        have x1 := hX8.cell 1
        have x2 := hX8.cell 2
        have x3 := hX8.cell 3
        simp at x0 x1 x2 x3
        have frx := hX8.free
        have lx := hX8.lt
        have lq := hQ5.lt
        clear hA5 hQ5 hZ5 hO5 hB5 hX8 hx8
        by_cases hz : wd q k = 0
        · have tz : (((wd q k : Nat) : Int) != 0) = false := by simp [hz]
          clear hz
          have HA6 := Lib.hid (HA.out)
          have HQ6 := Lib.hid (HQ.out)
          have HZ6 := Lib.hid (HZ.out)
          have HO6 := Lib.hid (HO.out)
          have HX6 := Lib.hid (HX8.out)
          have HB6 := Lib.hid (HB.out)
          have hl6 := HO6.out.lt
          have hw64 : IntKind.i64.wrap (64 * (k : Int)) = 64 * (k : Int) := IntWalk.i64_in _ (by have := HK.out; omega)
          go_upto_region 8 with fail
          go_cut [10, 11] (fun s10 s11 wx => ∃ g : Nat, s10 = .pointer (some ⟨g, 0, none⟩) ∧ s11 = .bool false ∧ wc.heap.size ≤ g ∧ Ext wc wx ∧ IsBlk wx g 24 #[.int .u64 (wd P 0 : Nat), .int .u64 (wd P 1 : Nat), .int .u64 (wd P 2 : Nat), .int .u64 (wd P 3 : Nat)])
          case first =>
            refine Held.start 12 (Ext wc) (by kernel_rfl) rfl (Below.refl _ _).drew ?_
            (first | (refine Held.skip (i := 0) rfl (by kernel_rfl) (fun _ _ _ h => h) rfl ?_; (try (try simp only [Act.put, List.setIfInBounds_toArray, List.set_cons_zero, List.set_cons_succ]))) | (refine Held.take (i := 0) (v := ?_) rfl (by kernel_rfl) (fun _ _ _ h => h) rfl ?_ ?_; rotate_left; (intro w hS; have hE := hS; have hx := HX6.out.after hE; have x0 := hx.cell 0; have x1 := hx.cell 1; have x2 := hx.cell 2; have x3 := hx.cell 3; have hy := HO6.out.after hE; have y0 := hy.cell 0; have y1 := hy.cell 1; have y2 := hy.cell 2; have y3 := hy.cell 3; simp at x0 x1 x2 x3 y0 y1 y2 y3; go_simp; with_reducible rfl); (try (try simp only [Act.put, List.setIfInBounds_toArray, List.set_cons_zero, List.set_cons_succ]))))
            (first | (refine Held.skip (i := 1) rfl (by kernel_rfl) (fun _ _ _ h => h) rfl ?_; (try (try simp only [Act.put, List.setIfInBounds_toArray, List.set_cons_zero, List.set_cons_succ]))) | (refine Held.take (i := 1) (v := ?_) rfl (by kernel_rfl) (fun _ _ _ h => h) rfl ?_ ?_; rotate_left; (intro w hS; have hE := hS; have hx := HX6.out.after hE; have x0 := hx.cell 0; have x1 := hx.cell 1; have x2 := hx.cell 2; have x3 := hx.cell 3; have hy := HO6.out.after hE; have y0 := hy.cell 0; have y1 := hy.cell 1; have y2 := hy.cell 2; have y3 := hy.cell 3; simp at x0 x1 x2 x3 y0 y1 y2 y3; go_simp; with_reducible rfl); (try (try simp only [Act.put, List.setIfInBounds_toArray, List.set_cons_zero, List.set_cons_succ]))))
            (first | (refine Held.skip (i := 2) rfl (by kernel_rfl) (fun _ _ _ h => h) rfl ?_; (try (try simp only [Act.put, List.setIfInBounds_toArray, List.set_cons_zero, List.set_cons_succ]))) | (refine Held.take (i := 2) (v := ?_) rfl (by kernel_rfl) (fun _ _ _ h => h) rfl ?_ ?_; rotate_left; (intro w hS; have hE := hS; have hx := HX6.out.after hE; have x0 := hx.cell 0; have x1 := hx.cell 1; have x2 := hx.cell 2; have x3 := hx.cell 3; have hy := HO6.out.after hE; have y0 := hy.cell 0; have y1 := hy.cell 1; have y2 := hy.cell 2; have y3 := hy.cell 3; simp at x0 x1 x2 x3 y0 y1 y2 y3; go_simp; with_reducible rfl); (try (try simp only [Act.put, List.setIfInBounds_toArray, List.set_cons_zero, List.set_cons_succ]))))
            (first | (refine Held.skip (i := 3) rfl (by kernel_rfl) (fun _ _ _ h => h) rfl ?_; (try (try simp only [Act.put, List.setIfInBounds_toArray, List.set_cons_zero, List.set_cons_succ]))) | (refine Held.take (i := 3) (v := ?_) rfl (by kernel_rfl) (fun _ _ _ h => h) rfl ?_ ?_; rotate_left; (intro w hS; have hE := hS; have hx := HX6.out.after hE; have x0 := hx.cell 0; have x1 := hx.cell 1; have x2 := hx.cell 2; have x3 := hx.cell 3; have hy := HO6.out.after hE; have y0 := hy.cell 0; have y1 := hy.cell 1; have y2 := hy.cell 2; have y3 := hy.cell 3; simp at x0 x1 x2 x3 y0 y1 y2 y3; go_simp; with_reducible rfl); (try (try simp only [Act.put, List.setIfInBounds_toArray, List.set_cons_zero, List.set_cons_succ]))))
            refine Held.two (i := 4) (j := 9) (by kernel_rfl) ?_ ?_
            · refine HeldOp.call (i := 4) (f := ?_) (args := ?_) rfl rfl ?_ ?_
              rotate_left 2
              · (intro w hS; go_simp; (first | with_reducible rfl | (refine ⟨?_, ?_⟩ <;> with_reducible rfl)))
              intro wcx hSc
              (with_reducible refine (KS.out _).mono ?_)
              rintro e vc ⟨rfl, hb⟩
              refine ⟨_, rfl, (Ext wc), bel_on hSc hb, fun w h => h, ?_⟩
              clear hSc hb
              (try simp only [Act.put, List.setIfInBounds_toArray, List.set_cons_zero, List.set_cons_succ])
              refine Held.two (i := 5) (j := 9) (by kernel_rfl) ?_ ?_
              · refine HeldOp.call (i := 5) (f := ?_) (args := ?_) rfl rfl ?_ ?_
                rotate_left 2
                · (intro w hS; go_simp; (first | with_reducible rfl | (refine ⟨?_, ?_⟩ <;> with_reducible rfl)))
                intro wcx hSc
                (with_reducible refine (KA.out _).mono ?_)
                rintro e vc ⟨rfl, hb⟩
                refine ⟨_, rfl, (Ext wc), bel_on hSc hb, fun w h => h, ?_⟩
                clear hSc hb
                (try simp only [Act.put, List.setIfInBounds_toArray, List.set_cons_zero, List.set_cons_succ])
                (first | (refine Held.skip (i := 6) rfl (by kernel_rfl) (fun _ _ _ h => h) rfl ?_; (try (try simp only [Act.put, List.setIfInBounds_toArray, List.set_cons_zero, List.set_cons_succ]))) | (refine Held.take (i := 6) (v := ?_) rfl (by kernel_rfl) (fun _ _ _ h => h) rfl ?_ ?_; rotate_left; (intro w hS; have hE := hS; have hx := HX6.out.after hE; have x0 := hx.cell 0; have x1 := hx.cell 1; have x2 := hx.cell 2; have x3 := hx.cell 3; have hy := HO6.out.after hE; have y0 := hy.cell 0; have y1 := hy.cell 1; have y2 := hy.cell 2; have y3 := hy.cell 3; simp at x0 x1 x2 x3 y0 y1 y2 y3; go_simp; with_reducible rfl); (try (try simp only [Act.put, List.setIfInBounds_toArray, List.set_cons_zero, List.set_cons_succ]))))
                (first | (refine Held.skip (i := 7) rfl (by kernel_rfl) (fun _ _ _ h => h) rfl ?_; (try (try simp only [Act.put, List.setIfInBounds_toArray, List.set_cons_zero, List.set_cons_succ]))) | (refine Held.take (i := 7) (v := ?_) rfl (by kernel_rfl) (fun _ _ _ h => h) rfl ?_ ?_; rotate_left; (intro w hS; have hE := hS; have hx := HX6.out.after hE; have x0 := hx.cell 0; have x1 := hx.cell 1; have x2 := hx.cell 2; have x3 := hx.cell 3; have hy := HO6.out.after hE; have y0 := hy.cell 0; have y1 := hy.cell 1; have y2 := hy.cell 2; have y3 := hy.cell 3; simp at x0 x1 x2 x3 y0 y1 y2 y3; go_simp; with_reducible rfl); (try (try simp only [Act.put, List.setIfInBounds_toArray, List.set_cons_zero, List.set_cons_succ]))))
                (first | (refine Held.skip (i := 8) rfl (by kernel_rfl) (fun _ _ _ h => h) rfl ?_; (try (try simp only [Act.put, List.setIfInBounds_toArray, List.set_cons_zero, List.set_cons_succ]))) | (refine Held.take (i := 8) (v := ?_) rfl (by kernel_rfl) (fun _ _ _ h => h) rfl ?_ ?_; rotate_left; (intro w hS; have hE := hS; have hx := HX6.out.after hE; have x0 := hx.cell 0; have x1 := hx.cell 1; have x2 := hx.cell 2; have x3 := hx.cell 3; have hy := HO6.out.after hE; have y0 := hy.cell 0; have y1 := hy.cell 1; have y2 := hy.cell 2; have y3 := hy.cell 3; simp at x0 x1 x2 x3 y0 y1 y2 y3; go_simp; with_reducible rfl); (try (try simp only [Act.put, List.setIfInBounds_toArray, List.set_cons_zero, List.set_cons_succ]))))
                refine Held.one (i := 9) (by kernel_rfl) ?_
                · refine HeldOp.step (i := 9) rfl rfl ?_
                  intro wcx hSc
                  have hg9 : wc.heap.size ≤ wcx.heap.size := Below.size (hSc)
                  refine ⟨.pointer (some ⟨wcx.heap.size, 0, none⟩), wcx.alloc (.cells #[.int .u64 0, .int .u64 0, .int .u64 0, .int .u64 0] 24), .inl (by go_simp), (fun w' => Ext wc w' ∧ Four w' wcx.heap.size), ⟨Below.alloc (hSc) (Below.size (hSc)) _, ⟨_, _, _, _, IsBlk.new _ _ _⟩⟩, fun w h => h.1, ?_⟩
                  generalize wcx.heap.size = g9 at *
                  clear hSc
                  (try simp only [Act.put, List.setIfInBounds_toArray, List.set_cons_zero, List.set_cons_succ])
                  refine Held.one (i := 10) (by kernel_rfl) ?_
                  · refine HeldOp.step (i := 10) rfl rfl ?_
                    intro wcx hSc
                    obtain ⟨c0, c1, c2, c3, hblk⟩ := hSc.2
                    refine ⟨undef, ((((wcx.setCell ⟨g9, 0, none⟩ (.int .u64 (wd P 0 : Nat))).setCell ⟨g9, 1, none⟩ (.int .u64 (wd P 1 : Nat))).setCell ⟨g9, 2, none⟩ (.int .u64 (wd P 2 : Nat))).setCell ⟨g9, 3, none⟩ (.int .u64 (wd P 3 : Nat))), .inr ⟨?_, rfl⟩, (fun w' => Ext wc w' ∧ IsBlk w' g9 24 #[.int .u64 (wd P 0 : Nat), .int .u64 (wd P 1 : Nat), .int .u64 (wd P 2 : Nat), .int .u64 (wd P 3 : Nat)]), ⟨bel4 hSc.1 hg9, stored4 hblk⟩, fun w h => ⟨h.1, ⟨_, _, _, _, h.2⟩⟩, ?_⟩
                    · have b0 := hblk.cell 0
                      have b1 := hblk.cell 1
                      have b2 := hblk.cell 2
                      have b3 := hblk.cell 3
                      simp at b0 b1 b2 b3
                      have frb := hblk.free
                      have ltb := hblk.lt
                      go_simp
                    clear hSc hblk
                    (try simp only [Act.put, List.setIfInBounds_toArray, List.set_cons_zero, List.set_cons_succ])
                    (first | (refine Held.skip (i := 11) rfl (by kernel_rfl) (fun _ _ _ h => h) rfl ?_; (try (try simp only [Act.put, List.setIfInBounds_toArray, List.set_cons_zero, List.set_cons_succ]))) | (refine Held.take (i := 11) (v := ?_) rfl (by kernel_rfl) (fun _ _ _ h => h) rfl ?_ ?_; rotate_left; (intro w hS; have hE := hS.1; have hx := HX6.out.after hE; have x0 := hx.cell 0; have x1 := hx.cell 1; have x2 := hx.cell 2; have x3 := hx.cell 3; have hy := HO6.out.after hE; have y0 := hy.cell 0; have y1 := hy.cell 1; have y2 := hy.cell 2; have y3 := hy.cell 3; simp at x0 x1 x2 x3 y0 y1 y2 y3; go_simp; with_reducible rfl); (try (try simp only [Act.put, List.setIfInBounds_toArray, List.set_cons_zero, List.set_cons_succ]))))
                    refine Held.done (by kernel_rfl) ?_
                    intro wz hz
                    go_wp2_with fail
                    go_meet
                    exact ⟨g9, rfl, rfl, hg9, hz.1, hz.2⟩
              · refine HeldOp.step (i := 9) rfl rfl ?_
                intro wcx hSc
                have hg9 : wc.heap.size ≤ wcx.heap.size := Below.size (hSc)
                refine ⟨.pointer (some ⟨wcx.heap.size, 0, none⟩), wcx.alloc (.cells #[.int .u64 0, .int .u64 0, .int .u64 0, .int .u64 0] 24), .inl (by go_simp), (fun w' => Ext wc w' ∧ Four w' wcx.heap.size), ⟨Below.alloc (hSc) (Below.size (hSc)) _, ⟨_, _, _, _, IsBlk.new _ _ _⟩⟩, fun w h => h.1, ?_⟩
                generalize wcx.heap.size = g9 at *
                clear hSc
                (try simp only [Act.put, List.setIfInBounds_toArray, List.set_cons_zero, List.set_cons_succ])
                refine Held.one (i := 5) (by kernel_rfl) ?_
                · refine HeldOp.call (i := 5) (f := ?_) (args := ?_) rfl rfl ?_ ?_
                  rotate_left 2
                  · (intro w hS; go_simp; (first | with_reducible rfl | (refine ⟨?_, ?_⟩ <;> with_reducible rfl)))
                  intro wcx hSc
                  (with_reducible refine (KA.out _).mono ?_)
                  rintro e vc ⟨rfl, hb⟩
                  refine ⟨_, rfl, (fun w' => Ext wc w' ∧ Four w' g9), ⟨bel_on hSc.1 hb, hSc.2.on hb⟩, fun w h => h, ?_⟩
                  clear hSc hb
                  (try simp only [Act.put, List.setIfInBounds_toArray, List.set_cons_zero, List.set_cons_succ])
                  (first | (refine Held.skip (i := 6) rfl (by kernel_rfl) (fun _ _ _ h => h) rfl ?_; (try (try simp only [Act.put, List.setIfInBounds_toArray, List.set_cons_zero, List.set_cons_succ]))) | (refine Held.take (i := 6) (v := ?_) rfl (by kernel_rfl) (fun _ _ _ h => h) rfl ?_ ?_; rotate_left; (intro w hS; have hE := hS.1; have hx := HX6.out.after hE; have x0 := hx.cell 0; have x1 := hx.cell 1; have x2 := hx.cell 2; have x3 := hx.cell 3; have hy := HO6.out.after hE; have y0 := hy.cell 0; have y1 := hy.cell 1; have y2 := hy.cell 2; have y3 := hy.cell 3; simp at x0 x1 x2 x3 y0 y1 y2 y3; go_simp; with_reducible rfl); (try (try simp only [Act.put, List.setIfInBounds_toArray, List.set_cons_zero, List.set_cons_succ]))))
                  (first | (refine Held.skip (i := 7) rfl (by kernel_rfl) (fun _ _ _ h => h) rfl ?_; (try (try simp only [Act.put, List.setIfInBounds_toArray, List.set_cons_zero, List.set_cons_succ]))) | (refine Held.take (i := 7) (v := ?_) rfl (by kernel_rfl) (fun _ _ _ h => h) rfl ?_ ?_; rotate_left; (intro w hS; have hE := hS.1; have hx := HX6.out.after hE; have x0 := hx.cell 0; have x1 := hx.cell 1; have x2 := hx.cell 2; have x3 := hx.cell 3; have hy := HO6.out.after hE; have y0 := hy.cell 0; have y1 := hy.cell 1; have y2 := hy.cell 2; have y3 := hy.cell 3; simp at x0 x1 x2 x3 y0 y1 y2 y3; go_simp; with_reducible rfl); (try (try simp only [Act.put, List.setIfInBounds_toArray, List.set_cons_zero, List.set_cons_succ]))))
                  (first | (refine Held.skip (i := 8) rfl (by kernel_rfl) (fun _ _ _ h => h) rfl ?_; (try (try simp only [Act.put, List.setIfInBounds_toArray, List.set_cons_zero, List.set_cons_succ]))) | (refine Held.take (i := 8) (v := ?_) rfl (by kernel_rfl) (fun _ _ _ h => h) rfl ?_ ?_; rotate_left; (intro w hS; have hE := hS.1; have hx := HX6.out.after hE; have x0 := hx.cell 0; have x1 := hx.cell 1; have x2 := hx.cell 2; have x3 := hx.cell 3; have hy := HO6.out.after hE; have y0 := hy.cell 0; have y1 := hy.cell 1; have y2 := hy.cell 2; have y3 := hy.cell 3; simp at x0 x1 x2 x3 y0 y1 y2 y3; go_simp; with_reducible rfl); (try (try simp only [Act.put, List.setIfInBounds_toArray, List.set_cons_zero, List.set_cons_succ]))))
                  refine Held.one (i := 10) (by kernel_rfl) ?_
                  · refine HeldOp.step (i := 10) rfl rfl ?_
                    intro wcx hSc
                    obtain ⟨c0, c1, c2, c3, hblk⟩ := hSc.2
                    refine ⟨undef, ((((wcx.setCell ⟨g9, 0, none⟩ (.int .u64 (wd P 0 : Nat))).setCell ⟨g9, 1, none⟩ (.int .u64 (wd P 1 : Nat))).setCell ⟨g9, 2, none⟩ (.int .u64 (wd P 2 : Nat))).setCell ⟨g9, 3, none⟩ (.int .u64 (wd P 3 : Nat))), .inr ⟨?_, rfl⟩, (fun w' => Ext wc w' ∧ IsBlk w' g9 24 #[.int .u64 (wd P 0 : Nat), .int .u64 (wd P 1 : Nat), .int .u64 (wd P 2 : Nat), .int .u64 (wd P 3 : Nat)]), ⟨bel4 hSc.1 hg9, stored4 hblk⟩, fun w h => ⟨h.1, ⟨_, _, _, _, h.2⟩⟩, ?_⟩
                    · have b0 := hblk.cell 0
                      have b1 := hblk.cell 1
                      have b2 := hblk.cell 2
                      have b3 := hblk.cell 3
                      simp at b0 b1 b2 b3
                      have frb := hblk.free
                      have ltb := hblk.lt
                      go_simp
                    clear hSc hblk
                    (try simp only [Act.put, List.setIfInBounds_toArray, List.set_cons_zero, List.set_cons_succ])
                    (first | (refine Held.skip (i := 11) rfl (by kernel_rfl) (fun _ _ _ h => h) rfl ?_; (try (try simp only [Act.put, List.setIfInBounds_toArray, List.set_cons_zero, List.set_cons_succ]))) | (refine Held.take (i := 11) (v := ?_) rfl (by kernel_rfl) (fun _ _ _ h => h) rfl ?_ ?_; rotate_left; (intro w hS; have hE := hS.1; have hx := HX6.out.after hE; have x0 := hx.cell 0; have x1 := hx.cell 1; have x2 := hx.cell 2; have x3 := hx.cell 3; have hy := HO6.out.after hE; have y0 := hy.cell 0; have y1 := hy.cell 1; have y2 := hy.cell 2; have y3 := hy.cell 3; simp at x0 x1 x2 x3 y0 y1 y2 y3; go_simp; with_reducible rfl); (try (try simp only [Act.put, List.setIfInBounds_toArray, List.set_cons_zero, List.set_cons_succ]))))
                    refine Held.done (by kernel_rfl) ?_
                    intro wz hz
                    go_wp2_with fail
                    go_meet
                    exact ⟨g9, rfl, rfl, hg9, hz.1, hz.2⟩
            · refine HeldOp.step (i := 9) rfl rfl ?_
              intro wcx hSc
              have hg9 : wc.heap.size ≤ wcx.heap.size := Below.size (hSc)
              refine ⟨.pointer (some ⟨wcx.heap.size, 0, none⟩), wcx.alloc (.cells #[.int .u64 0, .int .u64 0, .int .u64 0, .int .u64 0] 24), .inl (by go_simp), (fun w' => Ext wc w' ∧ Four w' wcx.heap.size), ⟨Below.alloc (hSc) (Below.size (hSc)) _, ⟨_, _, _, _, IsBlk.new _ _ _⟩⟩, fun w h => h.1, ?_⟩
              generalize wcx.heap.size = g9 at *
              clear hSc
              (try simp only [Act.put, List.setIfInBounds_toArray, List.set_cons_zero, List.set_cons_succ])
              refine Held.one (i := 4) (by kernel_rfl) ?_
              · refine HeldOp.call (i := 4) (f := ?_) (args := ?_) rfl rfl ?_ ?_
                rotate_left 2
                · (intro w hS; go_simp; (first | with_reducible rfl | (refine ⟨?_, ?_⟩ <;> with_reducible rfl)))
                intro wcx hSc
                (with_reducible refine (KS.out _).mono ?_)
                rintro e vc ⟨rfl, hb⟩
                refine ⟨_, rfl, (fun w' => Ext wc w' ∧ Four w' g9), ⟨bel_on hSc.1 hb, hSc.2.on hb⟩, fun w h => h, ?_⟩
                clear hSc hb
                (try simp only [Act.put, List.setIfInBounds_toArray, List.set_cons_zero, List.set_cons_succ])
                refine Held.one (i := 5) (by kernel_rfl) ?_
                · refine HeldOp.call (i := 5) (f := ?_) (args := ?_) rfl rfl ?_ ?_
                  rotate_left 2
                  · (intro w hS; go_simp; (first | with_reducible rfl | (refine ⟨?_, ?_⟩ <;> with_reducible rfl)))
                  intro wcx hSc
                  (with_reducible refine (KA.out _).mono ?_)
                  rintro e vc ⟨rfl, hb⟩
                  refine ⟨_, rfl, (fun w' => Ext wc w' ∧ Four w' g9), ⟨bel_on hSc.1 hb, hSc.2.on hb⟩, fun w h => h, ?_⟩
                  clear hSc hb
                  (try simp only [Act.put, List.setIfInBounds_toArray, List.set_cons_zero, List.set_cons_succ])
                  (first | (refine Held.skip (i := 6) rfl (by kernel_rfl) (fun _ _ _ h => h) rfl ?_; (try (try simp only [Act.put, List.setIfInBounds_toArray, List.set_cons_zero, List.set_cons_succ]))) | (refine Held.take (i := 6) (v := ?_) rfl (by kernel_rfl) (fun _ _ _ h => h) rfl ?_ ?_; rotate_left; (intro w hS; have hE := hS.1; have hx := HX6.out.after hE; have x0 := hx.cell 0; have x1 := hx.cell 1; have x2 := hx.cell 2; have x3 := hx.cell 3; have hy := HO6.out.after hE; have y0 := hy.cell 0; have y1 := hy.cell 1; have y2 := hy.cell 2; have y3 := hy.cell 3; simp at x0 x1 x2 x3 y0 y1 y2 y3; go_simp; with_reducible rfl); (try (try simp only [Act.put, List.setIfInBounds_toArray, List.set_cons_zero, List.set_cons_succ]))))
                  (first | (refine Held.skip (i := 7) rfl (by kernel_rfl) (fun _ _ _ h => h) rfl ?_; (try (try simp only [Act.put, List.setIfInBounds_toArray, List.set_cons_zero, List.set_cons_succ]))) | (refine Held.take (i := 7) (v := ?_) rfl (by kernel_rfl) (fun _ _ _ h => h) rfl ?_ ?_; rotate_left; (intro w hS; have hE := hS.1; have hx := HX6.out.after hE; have x0 := hx.cell 0; have x1 := hx.cell 1; have x2 := hx.cell 2; have x3 := hx.cell 3; have hy := HO6.out.after hE; have y0 := hy.cell 0; have y1 := hy.cell 1; have y2 := hy.cell 2; have y3 := hy.cell 3; simp at x0 x1 x2 x3 y0 y1 y2 y3; go_simp; with_reducible rfl); (try (try simp only [Act.put, List.setIfInBounds_toArray, List.set_cons_zero, List.set_cons_succ]))))
                  (first | (refine Held.skip (i := 8) rfl (by kernel_rfl) (fun _ _ _ h => h) rfl ?_; (try (try simp only [Act.put, List.setIfInBounds_toArray, List.set_cons_zero, List.set_cons_succ]))) | (refine Held.take (i := 8) (v := ?_) rfl (by kernel_rfl) (fun _ _ _ h => h) rfl ?_ ?_; rotate_left; (intro w hS; have hE := hS.1; have hx := HX6.out.after hE; have x0 := hx.cell 0; have x1 := hx.cell 1; have x2 := hx.cell 2; have x3 := hx.cell 3; have hy := HO6.out.after hE; have y0 := hy.cell 0; have y1 := hy.cell 1; have y2 := hy.cell 2; have y3 := hy.cell 3; simp at x0 x1 x2 x3 y0 y1 y2 y3; go_simp; with_reducible rfl); (try (try simp only [Act.put, List.setIfInBounds_toArray, List.set_cons_zero, List.set_cons_succ]))))
                  refine Held.one (i := 10) (by kernel_rfl) ?_
                  · refine HeldOp.step (i := 10) rfl rfl ?_
                    intro wcx hSc
                    obtain ⟨c0, c1, c2, c3, hblk⟩ := hSc.2
                    refine ⟨undef, ((((wcx.setCell ⟨g9, 0, none⟩ (.int .u64 (wd P 0 : Nat))).setCell ⟨g9, 1, none⟩ (.int .u64 (wd P 1 : Nat))).setCell ⟨g9, 2, none⟩ (.int .u64 (wd P 2 : Nat))).setCell ⟨g9, 3, none⟩ (.int .u64 (wd P 3 : Nat))), .inr ⟨?_, rfl⟩, (fun w' => Ext wc w' ∧ IsBlk w' g9 24 #[.int .u64 (wd P 0 : Nat), .int .u64 (wd P 1 : Nat), .int .u64 (wd P 2 : Nat), .int .u64 (wd P 3 : Nat)]), ⟨bel4 hSc.1 hg9, stored4 hblk⟩, fun w h => ⟨h.1, ⟨_, _, _, _, h.2⟩⟩, ?_⟩
                    · have b0 := hblk.cell 0
                      have b1 := hblk.cell 1
                      have b2 := hblk.cell 2
                      have b3 := hblk.cell 3
                      simp at b0 b1 b2 b3
                      have frb := hblk.free
                      have ltb := hblk.lt
                      go_simp
                    clear hSc hblk
                    (try simp only [Act.put, List.setIfInBounds_toArray, List.set_cons_zero, List.set_cons_succ])
                    (first | (refine Held.skip (i := 11) rfl (by kernel_rfl) (fun _ _ _ h => h) rfl ?_; (try (try simp only [Act.put, List.setIfInBounds_toArray, List.set_cons_zero, List.set_cons_succ]))) | (refine Held.take (i := 11) (v := ?_) rfl (by kernel_rfl) (fun _ _ _ h => h) rfl ?_ ?_; rotate_left; (intro w hS; have hE := hS.1; have hx := HX6.out.after hE; have x0 := hx.cell 0; have x1 := hx.cell 1; have x2 := hx.cell 2; have x3 := hx.cell 3; have hy := HO6.out.after hE; have y0 := hy.cell 0; have y1 := hy.cell 1; have y2 := hy.cell 2; have y3 := hy.cell 3; simp at x0 x1 x2 x3 y0 y1 y2 y3; go_simp; with_reducible rfl); (try (try simp only [Act.put, List.setIfInBounds_toArray, List.set_cons_zero, List.set_cons_succ]))))
                    refine Held.done (by kernel_rfl) ?_
                    intro wz hz
                    go_wp2_with fail
                    go_meet
                    exact ⟨g9, rfl, rfl, hg9, hz.1, hz.2⟩
          case rest =>
            obtain ⟨g9, rfl, rfl, hg9, hx9, hP9⟩ := hcut
            have hA9 := HA6.out.after hx9
            have hQ9 := HQ6.out.after hx9
            have hZ9 := HZ6.out.after hx9
            have hO9 := HO6.out.after hx9
            have hB9 := bel_on HB6.out hx9
            have p0 := hP9.cell 0
            have p1 := hP9.cell 1
            have p2 := hP9.cell 2
            have p3 := hP9.cell 3
            simp at p0 p1 p2 p3
            have frp := hP9.free
            have o0 := hO9.cell 0
            have o1 := hO9.cell 1
            have o2 := hO9.cell 2
            have o3 := hO9.cell 3
            simp at o0 o1 o2 o3
            have fro := hO9.free
            have lp := hP9.lt
            have lo := hO9.lt
            have HA9 := Lib.hid hA9
            have HQ9 := Lib.hid hQ9
            have HZ9 := Lib.hid hZ9
            have HO9 := Lib.hid hO9
            have HB9 := Lib.hid hB9
            clear hA9 hQ9 hZ9 hO9 hB9 hx9 hP9 hg9
            go_wp2_with fail
            exact ⟨⟨k + 1, by omega, by go_num, far4 HA9.out (by omega), far4 HQ9.out (by omega), far4 HZ9.out (by omega), by rw [HP.out]; exact stored4 HO9.out, bel4 HB9.out (by omega)⟩, by simp [intOf]; omega⟩
        · have tz : (((wd q k : Nat) : Int) != 0) = true := by simp; omega
          have hle := H4.out hz
          have tb : ((bitsN X : Nat) : Int) + 64 * (k : Int) ≤ 256 := by omega
          clear hz hle
          go_wp2_with fail
          refine (KB.out _).mono ?_
          rintro e w5 ⟨rfl, hb5⟩
          have HA6 := Lib.hid (HA.out.after hb5)
          have HQ6 := Lib.hid (HQ.out.after hb5)
          have HZ6 := Lib.hid (HZ.out.after hb5)
          have HO6 := Lib.hid (HO.out.after hb5)
          have HX6 := Lib.hid (HX8.out.after hb5)
          have HB6 := Lib.hid (bel_on HB.out hb5)
          have hl6 := HO6.out.lt
          have hw64 : IntKind.i64.wrap (64 * (k : Int)) = 64 * (k : Int) := IntWalk.i64_in _ (by have := HK.out; omega)
          go_upto_region 8 with fail
          go_cut [10, 11] (fun s10 s11 wx => ∃ g : Nat, s10 = .pointer (some ⟨g, 0, none⟩) ∧ s11 = .bool false ∧ w5.heap.size ≤ g ∧ Ext w5 wx ∧ IsBlk wx g 24 #[.int .u64 (wd P 0 : Nat), .int .u64 (wd P 1 : Nat), .int .u64 (wd P 2 : Nat), .int .u64 (wd P 3 : Nat)])
          case first =>
            refine Held.start 12 (Ext w5) (by kernel_rfl) rfl (Below.refl _ _).drew ?_
            (first | (refine Held.skip (i := 0) rfl (by kernel_rfl) (fun _ _ _ h => h) rfl ?_; (try (try simp only [Act.put, List.setIfInBounds_toArray, List.set_cons_zero, List.set_cons_succ]))) | (refine Held.take (i := 0) (v := ?_) rfl (by kernel_rfl) (fun _ _ _ h => h) rfl ?_ ?_; rotate_left; (intro w hS; have hE := hS; have hx := HX6.out.after hE; have x0 := hx.cell 0; have x1 := hx.cell 1; have x2 := hx.cell 2; have x3 := hx.cell 3; have hy := HO6.out.after hE; have y0 := hy.cell 0; have y1 := hy.cell 1; have y2 := hy.cell 2; have y3 := hy.cell 3; simp at x0 x1 x2 x3 y0 y1 y2 y3; go_simp; with_reducible rfl); (try (try simp only [Act.put, List.setIfInBounds_toArray, List.set_cons_zero, List.set_cons_succ]))))
            (first | (refine Held.skip (i := 1) rfl (by kernel_rfl) (fun _ _ _ h => h) rfl ?_; (try (try simp only [Act.put, List.setIfInBounds_toArray, List.set_cons_zero, List.set_cons_succ]))) | (refine Held.take (i := 1) (v := ?_) rfl (by kernel_rfl) (fun _ _ _ h => h) rfl ?_ ?_; rotate_left; (intro w hS; have hE := hS; have hx := HX6.out.after hE; have x0 := hx.cell 0; have x1 := hx.cell 1; have x2 := hx.cell 2; have x3 := hx.cell 3; have hy := HO6.out.after hE; have y0 := hy.cell 0; have y1 := hy.cell 1; have y2 := hy.cell 2; have y3 := hy.cell 3; simp at x0 x1 x2 x3 y0 y1 y2 y3; go_simp; with_reducible rfl); (try (try simp only [Act.put, List.setIfInBounds_toArray, List.set_cons_zero, List.set_cons_succ]))))
            (first | (refine Held.skip (i := 2) rfl (by kernel_rfl) (fun _ _ _ h => h) rfl ?_; (try (try simp only [Act.put, List.setIfInBounds_toArray, List.set_cons_zero, List.set_cons_succ]))) | (refine Held.take (i := 2) (v := ?_) rfl (by kernel_rfl) (fun _ _ _ h => h) rfl ?_ ?_; rotate_left; (intro w hS; have hE := hS; have hx := HX6.out.after hE; have x0 := hx.cell 0; have x1 := hx.cell 1; have x2 := hx.cell 2; have x3 := hx.cell 3; have hy := HO6.out.after hE; have y0 := hy.cell 0; have y1 := hy.cell 1; have y2 := hy.cell 2; have y3 := hy.cell 3; simp at x0 x1 x2 x3 y0 y1 y2 y3; go_simp; with_reducible rfl); (try (try simp only [Act.put, List.setIfInBounds_toArray, List.set_cons_zero, List.set_cons_succ]))))
            (first | (refine Held.skip (i := 3) rfl (by kernel_rfl) (fun _ _ _ h => h) rfl ?_; (try (try simp only [Act.put, List.setIfInBounds_toArray, List.set_cons_zero, List.set_cons_succ]))) | (refine Held.take (i := 3) (v := ?_) rfl (by kernel_rfl) (fun _ _ _ h => h) rfl ?_ ?_; rotate_left; (intro w hS; have hE := hS; have hx := HX6.out.after hE; have x0 := hx.cell 0; have x1 := hx.cell 1; have x2 := hx.cell 2; have x3 := hx.cell 3; have hy := HO6.out.after hE; have y0 := hy.cell 0; have y1 := hy.cell 1; have y2 := hy.cell 2; have y3 := hy.cell 3; simp at x0 x1 x2 x3 y0 y1 y2 y3; go_simp; with_reducible rfl); (try (try simp only [Act.put, List.setIfInBounds_toArray, List.set_cons_zero, List.set_cons_succ]))))
            refine Held.two (i := 4) (j := 9) (by kernel_rfl) ?_ ?_
            · refine HeldOp.call (i := 4) (f := ?_) (args := ?_) rfl rfl ?_ ?_
              rotate_left 2
              · (intro w hS; go_simp; (first | with_reducible rfl | (refine ⟨?_, ?_⟩ <;> with_reducible rfl)))
              intro wcx hSc
              (with_reducible refine (KS.out _).mono ?_)
              rintro e vc ⟨rfl, hb⟩
              refine ⟨_, rfl, (Ext w5), bel_on hSc hb, fun w h => h, ?_⟩
              clear hSc hb
              (try simp only [Act.put, List.setIfInBounds_toArray, List.set_cons_zero, List.set_cons_succ])
              refine Held.two (i := 5) (j := 9) (by kernel_rfl) ?_ ?_
              · refine HeldOp.call (i := 5) (f := ?_) (args := ?_) rfl rfl ?_ ?_
                rotate_left 2
                · (intro w hS; go_simp; (first | with_reducible rfl | (refine ⟨?_, ?_⟩ <;> with_reducible rfl)))
                intro wcx hSc
                (with_reducible refine (KA.out _).mono ?_)
                rintro e vc ⟨rfl, hb⟩
                refine ⟨_, rfl, (Ext w5), bel_on hSc hb, fun w h => h, ?_⟩
                clear hSc hb
                (try simp only [Act.put, List.setIfInBounds_toArray, List.set_cons_zero, List.set_cons_succ])
                (first | (refine Held.skip (i := 6) rfl (by kernel_rfl) (fun _ _ _ h => h) rfl ?_; (try (try simp only [Act.put, List.setIfInBounds_toArray, List.set_cons_zero, List.set_cons_succ]))) | (refine Held.take (i := 6) (v := ?_) rfl (by kernel_rfl) (fun _ _ _ h => h) rfl ?_ ?_; rotate_left; (intro w hS; have hE := hS; have hx := HX6.out.after hE; have x0 := hx.cell 0; have x1 := hx.cell 1; have x2 := hx.cell 2; have x3 := hx.cell 3; have hy := HO6.out.after hE; have y0 := hy.cell 0; have y1 := hy.cell 1; have y2 := hy.cell 2; have y3 := hy.cell 3; simp at x0 x1 x2 x3 y0 y1 y2 y3; go_simp; with_reducible rfl); (try (try simp only [Act.put, List.setIfInBounds_toArray, List.set_cons_zero, List.set_cons_succ]))))
                (first | (refine Held.skip (i := 7) rfl (by kernel_rfl) (fun _ _ _ h => h) rfl ?_; (try (try simp only [Act.put, List.setIfInBounds_toArray, List.set_cons_zero, List.set_cons_succ]))) | (refine Held.take (i := 7) (v := ?_) rfl (by kernel_rfl) (fun _ _ _ h => h) rfl ?_ ?_; rotate_left; (intro w hS; have hE := hS; have hx := HX6.out.after hE; have x0 := hx.cell 0; have x1 := hx.cell 1; have x2 := hx.cell 2; have x3 := hx.cell 3; have hy := HO6.out.after hE; have y0 := hy.cell 0; have y1 := hy.cell 1; have y2 := hy.cell 2; have y3 := hy.cell 3; simp at x0 x1 x2 x3 y0 y1 y2 y3; go_simp; with_reducible rfl); (try (try simp only [Act.put, List.setIfInBounds_toArray, List.set_cons_zero, List.set_cons_succ]))))
                (first | (refine Held.skip (i := 8) rfl (by kernel_rfl) (fun _ _ _ h => h) rfl ?_; (try (try simp only [Act.put, List.setIfInBounds_toArray, List.set_cons_zero, List.set_cons_succ]))) | (refine Held.take (i := 8) (v := ?_) rfl (by kernel_rfl) (fun _ _ _ h => h) rfl ?_ ?_; rotate_left; (intro w hS; have hE := hS; have hx := HX6.out.after hE; have x0 := hx.cell 0; have x1 := hx.cell 1; have x2 := hx.cell 2; have x3 := hx.cell 3; have hy := HO6.out.after hE; have y0 := hy.cell 0; have y1 := hy.cell 1; have y2 := hy.cell 2; have y3 := hy.cell 3; simp at x0 x1 x2 x3 y0 y1 y2 y3; go_simp; with_reducible rfl); (try (try simp only [Act.put, List.setIfInBounds_toArray, List.set_cons_zero, List.set_cons_succ]))))
                refine Held.one (i := 9) (by kernel_rfl) ?_
                · refine HeldOp.step (i := 9) rfl rfl ?_
                  intro wcx hSc
                  have hg9 : w5.heap.size ≤ wcx.heap.size := Below.size (hSc)
                  refine ⟨.pointer (some ⟨wcx.heap.size, 0, none⟩), wcx.alloc (.cells #[.int .u64 0, .int .u64 0, .int .u64 0, .int .u64 0] 24), .inl (by go_simp), (fun w' => Ext w5 w' ∧ Four w' wcx.heap.size), ⟨Below.alloc (hSc) (Below.size (hSc)) _, ⟨_, _, _, _, IsBlk.new _ _ _⟩⟩, fun w h => h.1, ?_⟩
                  generalize wcx.heap.size = g9 at *
                  clear hSc
                  (try simp only [Act.put, List.setIfInBounds_toArray, List.set_cons_zero, List.set_cons_succ])
                  refine Held.one (i := 10) (by kernel_rfl) ?_
                  · refine HeldOp.step (i := 10) rfl rfl ?_
                    intro wcx hSc
                    obtain ⟨c0, c1, c2, c3, hblk⟩ := hSc.2
                    refine ⟨undef, ((((wcx.setCell ⟨g9, 0, none⟩ (.int .u64 (wd P 0 : Nat))).setCell ⟨g9, 1, none⟩ (.int .u64 (wd P 1 : Nat))).setCell ⟨g9, 2, none⟩ (.int .u64 (wd P 2 : Nat))).setCell ⟨g9, 3, none⟩ (.int .u64 (wd P 3 : Nat))), .inr ⟨?_, rfl⟩, (fun w' => Ext w5 w' ∧ IsBlk w' g9 24 #[.int .u64 (wd P 0 : Nat), .int .u64 (wd P 1 : Nat), .int .u64 (wd P 2 : Nat), .int .u64 (wd P 3 : Nat)]), ⟨bel4 hSc.1 hg9, stored4 hblk⟩, fun w h => ⟨h.1, ⟨_, _, _, _, h.2⟩⟩, ?_⟩
                    · have b0 := hblk.cell 0
                      have b1 := hblk.cell 1
                      have b2 := hblk.cell 2
                      have b3 := hblk.cell 3
                      simp at b0 b1 b2 b3
                      have frb := hblk.free
                      have ltb := hblk.lt
                      go_simp
                    clear hSc hblk
                    (try simp only [Act.put, List.setIfInBounds_toArray, List.set_cons_zero, List.set_cons_succ])
                    (first | (refine Held.skip (i := 11) rfl (by kernel_rfl) (fun _ _ _ h => h) rfl ?_; (try (try simp only [Act.put, List.setIfInBounds_toArray, List.set_cons_zero, List.set_cons_succ]))) | (refine Held.take (i := 11) (v := ?_) rfl (by kernel_rfl) (fun _ _ _ h => h) rfl ?_ ?_; rotate_left; (intro w hS; have hE := hS.1; have hx := HX6.out.after hE; have x0 := hx.cell 0; have x1 := hx.cell 1; have x2 := hx.cell 2; have x3 := hx.cell 3; have hy := HO6.out.after hE; have y0 := hy.cell 0; have y1 := hy.cell 1; have y2 := hy.cell 2; have y3 := hy.cell 3; simp at x0 x1 x2 x3 y0 y1 y2 y3; go_simp; with_reducible rfl); (try (try simp only [Act.put, List.setIfInBounds_toArray, List.set_cons_zero, List.set_cons_succ]))))
                    refine Held.done (by kernel_rfl) ?_
                    intro wz hz
                    go_wp2_with fail
                    go_meet
                    exact ⟨g9, rfl, rfl, hg9, hz.1, hz.2⟩
              · refine HeldOp.step (i := 9) rfl rfl ?_
                intro wcx hSc
                have hg9 : w5.heap.size ≤ wcx.heap.size := Below.size (hSc)
                refine ⟨.pointer (some ⟨wcx.heap.size, 0, none⟩), wcx.alloc (.cells #[.int .u64 0, .int .u64 0, .int .u64 0, .int .u64 0] 24), .inl (by go_simp), (fun w' => Ext w5 w' ∧ Four w' wcx.heap.size), ⟨Below.alloc (hSc) (Below.size (hSc)) _, ⟨_, _, _, _, IsBlk.new _ _ _⟩⟩, fun w h => h.1, ?_⟩
                generalize wcx.heap.size = g9 at *
                clear hSc
                (try simp only [Act.put, List.setIfInBounds_toArray, List.set_cons_zero, List.set_cons_succ])
                refine Held.one (i := 5) (by kernel_rfl) ?_
                · refine HeldOp.call (i := 5) (f := ?_) (args := ?_) rfl rfl ?_ ?_
                  rotate_left 2
                  · (intro w hS; go_simp; (first | with_reducible rfl | (refine ⟨?_, ?_⟩ <;> with_reducible rfl)))
                  intro wcx hSc
                  (with_reducible refine (KA.out _).mono ?_)
                  rintro e vc ⟨rfl, hb⟩
                  refine ⟨_, rfl, (fun w' => Ext w5 w' ∧ Four w' g9), ⟨bel_on hSc.1 hb, hSc.2.on hb⟩, fun w h => h, ?_⟩
                  clear hSc hb
                  (try simp only [Act.put, List.setIfInBounds_toArray, List.set_cons_zero, List.set_cons_succ])
                  (first | (refine Held.skip (i := 6) rfl (by kernel_rfl) (fun _ _ _ h => h) rfl ?_; (try (try simp only [Act.put, List.setIfInBounds_toArray, List.set_cons_zero, List.set_cons_succ]))) | (refine Held.take (i := 6) (v := ?_) rfl (by kernel_rfl) (fun _ _ _ h => h) rfl ?_ ?_; rotate_left; (intro w hS; have hE := hS.1; have hx := HX6.out.after hE; have x0 := hx.cell 0; have x1 := hx.cell 1; have x2 := hx.cell 2; have x3 := hx.cell 3; have hy := HO6.out.after hE; have y0 := hy.cell 0; have y1 := hy.cell 1; have y2 := hy.cell 2; have y3 := hy.cell 3; simp at x0 x1 x2 x3 y0 y1 y2 y3; go_simp; with_reducible rfl); (try (try simp only [Act.put, List.setIfInBounds_toArray, List.set_cons_zero, List.set_cons_succ]))))
                  (first | (refine Held.skip (i := 7) rfl (by kernel_rfl) (fun _ _ _ h => h) rfl ?_; (try (try simp only [Act.put, List.setIfInBounds_toArray, List.set_cons_zero, List.set_cons_succ]))) | (refine Held.take (i := 7) (v := ?_) rfl (by kernel_rfl) (fun _ _ _ h => h) rfl ?_ ?_; rotate_left; (intro w hS; have hE := hS.1; have hx := HX6.out.after hE; have x0 := hx.cell 0; have x1 := hx.cell 1; have x2 := hx.cell 2; have x3 := hx.cell 3; have hy := HO6.out.after hE; have y0 := hy.cell 0; have y1 := hy.cell 1; have y2 := hy.cell 2; have y3 := hy.cell 3; simp at x0 x1 x2 x3 y0 y1 y2 y3; go_simp; with_reducible rfl); (try (try simp only [Act.put, List.setIfInBounds_toArray, List.set_cons_zero, List.set_cons_succ]))))
                  (first | (refine Held.skip (i := 8) rfl (by kernel_rfl) (fun _ _ _ h => h) rfl ?_; (try (try simp only [Act.put, List.setIfInBounds_toArray, List.set_cons_zero, List.set_cons_succ]))) | (refine Held.take (i := 8) (v := ?_) rfl (by kernel_rfl) (fun _ _ _ h => h) rfl ?_ ?_; rotate_left; (intro w hS; have hE := hS.1; have hx := HX6.out.after hE; have x0 := hx.cell 0; have x1 := hx.cell 1; have x2 := hx.cell 2; have x3 := hx.cell 3; have hy := HO6.out.after hE; have y0 := hy.cell 0; have y1 := hy.cell 1; have y2 := hy.cell 2; have y3 := hy.cell 3; simp at x0 x1 x2 x3 y0 y1 y2 y3; go_simp; with_reducible rfl); (try (try simp only [Act.put, List.setIfInBounds_toArray, List.set_cons_zero, List.set_cons_succ]))))
                  refine Held.one (i := 10) (by kernel_rfl) ?_
                  · refine HeldOp.step (i := 10) rfl rfl ?_
                    intro wcx hSc
                    obtain ⟨c0, c1, c2, c3, hblk⟩ := hSc.2
                    refine ⟨undef, ((((wcx.setCell ⟨g9, 0, none⟩ (.int .u64 (wd P 0 : Nat))).setCell ⟨g9, 1, none⟩ (.int .u64 (wd P 1 : Nat))).setCell ⟨g9, 2, none⟩ (.int .u64 (wd P 2 : Nat))).setCell ⟨g9, 3, none⟩ (.int .u64 (wd P 3 : Nat))), .inr ⟨?_, rfl⟩, (fun w' => Ext w5 w' ∧ IsBlk w' g9 24 #[.int .u64 (wd P 0 : Nat), .int .u64 (wd P 1 : Nat), .int .u64 (wd P 2 : Nat), .int .u64 (wd P 3 : Nat)]), ⟨bel4 hSc.1 hg9, stored4 hblk⟩, fun w h => ⟨h.1, ⟨_, _, _, _, h.2⟩⟩, ?_⟩
                    · have b0 := hblk.cell 0
                      have b1 := hblk.cell 1
                      have b2 := hblk.cell 2
                      have b3 := hblk.cell 3
                      simp at b0 b1 b2 b3
                      have frb := hblk.free
                      have ltb := hblk.lt
                      go_simp
                    clear hSc hblk
                    (try simp only [Act.put, List.setIfInBounds_toArray, List.set_cons_zero, List.set_cons_succ])
                    (first | (refine Held.skip (i := 11) rfl (by kernel_rfl) (fun _ _ _ h => h) rfl ?_; (try (try simp only [Act.put, List.setIfInBounds_toArray, List.set_cons_zero, List.set_cons_succ]))) | (refine Held.take (i := 11) (v := ?_) rfl (by kernel_rfl) (fun _ _ _ h => h) rfl ?_ ?_; rotate_left; (intro w hS; have hE := hS.1; have hx := HX6.out.after hE; have x0 := hx.cell 0; have x1 := hx.cell 1; have x2 := hx.cell 2; have x3 := hx.cell 3; have hy := HO6.out.after hE; have y0 := hy.cell 0; have y1 := hy.cell 1; have y2 := hy.cell 2; have y3 := hy.cell 3; simp at x0 x1 x2 x3 y0 y1 y2 y3; go_simp; with_reducible rfl); (try (try simp only [Act.put, List.setIfInBounds_toArray, List.set_cons_zero, List.set_cons_succ]))))
                    refine Held.done (by kernel_rfl) ?_
                    intro wz hz
                    go_wp2_with fail
                    go_meet
                    exact ⟨g9, rfl, rfl, hg9, hz.1, hz.2⟩
            · refine HeldOp.step (i := 9) rfl rfl ?_
              intro wcx hSc
              have hg9 : w5.heap.size ≤ wcx.heap.size := Below.size (hSc)
              refine ⟨.pointer (some ⟨wcx.heap.size, 0, none⟩), wcx.alloc (.cells #[.int .u64 0, .int .u64 0, .int .u64 0, .int .u64 0] 24), .inl (by go_simp), (fun w' => Ext w5 w' ∧ Four w' wcx.heap.size), ⟨Below.alloc (hSc) (Below.size (hSc)) _, ⟨_, _, _, _, IsBlk.new _ _ _⟩⟩, fun w h => h.1, ?_⟩
              generalize wcx.heap.size = g9 at *
              clear hSc
              (try simp only [Act.put, List.setIfInBounds_toArray, List.set_cons_zero, List.set_cons_succ])
              refine Held.one (i := 4) (by kernel_rfl) ?_
              · refine HeldOp.call (i := 4) (f := ?_) (args := ?_) rfl rfl ?_ ?_
                rotate_left 2
                · (intro w hS; go_simp; (first | with_reducible rfl | (refine ⟨?_, ?_⟩ <;> with_reducible rfl)))
                intro wcx hSc
                (with_reducible refine (KS.out _).mono ?_)
                rintro e vc ⟨rfl, hb⟩
                refine ⟨_, rfl, (fun w' => Ext w5 w' ∧ Four w' g9), ⟨bel_on hSc.1 hb, hSc.2.on hb⟩, fun w h => h, ?_⟩
                clear hSc hb
                (try simp only [Act.put, List.setIfInBounds_toArray, List.set_cons_zero, List.set_cons_succ])
                refine Held.one (i := 5) (by kernel_rfl) ?_
                · refine HeldOp.call (i := 5) (f := ?_) (args := ?_) rfl rfl ?_ ?_
                  rotate_left 2
                  · (intro w hS; go_simp; (first | with_reducible rfl | (refine ⟨?_, ?_⟩ <;> with_reducible rfl)))
                  intro wcx hSc
                  (with_reducible refine (KA.out _).mono ?_)
                  rintro e vc ⟨rfl, hb⟩
                  refine ⟨_, rfl, (fun w' => Ext w5 w' ∧ Four w' g9), ⟨bel_on hSc.1 hb, hSc.2.on hb⟩, fun w h => h, ?_⟩
                  clear hSc hb
                  (try simp only [Act.put, List.setIfInBounds_toArray, List.set_cons_zero, List.set_cons_succ])
                  (first | (refine Held.skip (i := 6) rfl (by kernel_rfl) (fun _ _ _ h => h) rfl ?_; (try (try simp only [Act.put, List.setIfInBounds_toArray, List.set_cons_zero, List.set_cons_succ]))) | (refine Held.take (i := 6) (v := ?_) rfl (by kernel_rfl) (fun _ _ _ h => h) rfl ?_ ?_; rotate_left; (intro w hS; have hE := hS.1; have hx := HX6.out.after hE; have x0 := hx.cell 0; have x1 := hx.cell 1; have x2 := hx.cell 2; have x3 := hx.cell 3; have hy := HO6.out.after hE; have y0 := hy.cell 0; have y1 := hy.cell 1; have y2 := hy.cell 2; have y3 := hy.cell 3; simp at x0 x1 x2 x3 y0 y1 y2 y3; go_simp; with_reducible rfl); (try (try simp only [Act.put, List.setIfInBounds_toArray, List.set_cons_zero, List.set_cons_succ]))))
                  (first | (refine Held.skip (i := 7) rfl (by kernel_rfl) (fun _ _ _ h => h) rfl ?_; (try (try simp only [Act.put, List.setIfInBounds_toArray, List.set_cons_zero, List.set_cons_succ]))) | (refine Held.take (i := 7) (v := ?_) rfl (by kernel_rfl) (fun _ _ _ h => h) rfl ?_ ?_; rotate_left; (intro w hS; have hE := hS.1; have hx := HX6.out.after hE; have x0 := hx.cell 0; have x1 := hx.cell 1; have x2 := hx.cell 2; have x3 := hx.cell 3; have hy := HO6.out.after hE; have y0 := hy.cell 0; have y1 := hy.cell 1; have y2 := hy.cell 2; have y3 := hy.cell 3; simp at x0 x1 x2 x3 y0 y1 y2 y3; go_simp; with_reducible rfl); (try (try simp only [Act.put, List.setIfInBounds_toArray, List.set_cons_zero, List.set_cons_succ]))))
                  (first | (refine Held.skip (i := 8) rfl (by kernel_rfl) (fun _ _ _ h => h) rfl ?_; (try (try simp only [Act.put, List.setIfInBounds_toArray, List.set_cons_zero, List.set_cons_succ]))) | (refine Held.take (i := 8) (v := ?_) rfl (by kernel_rfl) (fun _ _ _ h => h) rfl ?_ ?_; rotate_left; (intro w hS; have hE := hS.1; have hx := HX6.out.after hE; have x0 := hx.cell 0; have x1 := hx.cell 1; have x2 := hx.cell 2; have x3 := hx.cell 3; have hy := HO6.out.after hE; have y0 := hy.cell 0; have y1 := hy.cell 1; have y2 := hy.cell 2; have y3 := hy.cell 3; simp at x0 x1 x2 x3 y0 y1 y2 y3; go_simp; with_reducible rfl); (try (try simp only [Act.put, List.setIfInBounds_toArray, List.set_cons_zero, List.set_cons_succ]))))
                  refine Held.one (i := 10) (by kernel_rfl) ?_
                  · refine HeldOp.step (i := 10) rfl rfl ?_
                    intro wcx hSc
                    obtain ⟨c0, c1, c2, c3, hblk⟩ := hSc.2
                    refine ⟨undef, ((((wcx.setCell ⟨g9, 0, none⟩ (.int .u64 (wd P 0 : Nat))).setCell ⟨g9, 1, none⟩ (.int .u64 (wd P 1 : Nat))).setCell ⟨g9, 2, none⟩ (.int .u64 (wd P 2 : Nat))).setCell ⟨g9, 3, none⟩ (.int .u64 (wd P 3 : Nat))), .inr ⟨?_, rfl⟩, (fun w' => Ext w5 w' ∧ IsBlk w' g9 24 #[.int .u64 (wd P 0 : Nat), .int .u64 (wd P 1 : Nat), .int .u64 (wd P 2 : Nat), .int .u64 (wd P 3 : Nat)]), ⟨bel4 hSc.1 hg9, stored4 hblk⟩, fun w h => ⟨h.1, ⟨_, _, _, _, h.2⟩⟩, ?_⟩
                    · have b0 := hblk.cell 0
                      have b1 := hblk.cell 1
                      have b2 := hblk.cell 2
                      have b3 := hblk.cell 3
                      simp at b0 b1 b2 b3
                      have frb := hblk.free
                      have ltb := hblk.lt
                      go_simp
                    clear hSc hblk
                    (try simp only [Act.put, List.setIfInBounds_toArray, List.set_cons_zero, List.set_cons_succ])
                    (first | (refine Held.skip (i := 11) rfl (by kernel_rfl) (fun _ _ _ h => h) rfl ?_; (try (try simp only [Act.put, List.setIfInBounds_toArray, List.set_cons_zero, List.set_cons_succ]))) | (refine Held.take (i := 11) (v := ?_) rfl (by kernel_rfl) (fun _ _ _ h => h) rfl ?_ ?_; rotate_left; (intro w hS; have hE := hS.1; have hx := HX6.out.after hE; have x0 := hx.cell 0; have x1 := hx.cell 1; have x2 := hx.cell 2; have x3 := hx.cell 3; have hy := HO6.out.after hE; have y0 := hy.cell 0; have y1 := hy.cell 1; have y2 := hy.cell 2; have y3 := hy.cell 3; simp at x0 x1 x2 x3 y0 y1 y2 y3; go_simp; with_reducible rfl); (try (try simp only [Act.put, List.setIfInBounds_toArray, List.set_cons_zero, List.set_cons_succ]))))
                    refine Held.done (by kernel_rfl) ?_
                    intro wz hz
                    go_wp2_with fail
                    go_meet
                    exact ⟨g9, rfl, rfl, hg9, hz.1, hz.2⟩
          case rest =>
            obtain ⟨g9, rfl, rfl, hg9, hx9, hP9⟩ := hcut
            have hA9 := HA6.out.after hx9
            have hQ9 := HQ6.out.after hx9
            have hZ9 := HZ6.out.after hx9
            have hO9 := HO6.out.after hx9
            have hB9 := bel_on HB6.out hx9
            have p0 := hP9.cell 0
            have p1 := hP9.cell 1
            have p2 := hP9.cell 2
            have p3 := hP9.cell 3
            simp at p0 p1 p2 p3
            have frp := hP9.free
            have o0 := hO9.cell 0
            have o1 := hO9.cell 1
            have o2 := hO9.cell 2
            have o3 := hO9.cell 3
            simp at o0 o1 o2 o3
            have fro := hO9.free
            have lp := hP9.lt
            have lo := hO9.lt
            have HA9 := Lib.hid hA9
            have HQ9 := Lib.hid hQ9
            have HZ9 := Lib.hid hZ9
            have HO9 := Lib.hid hO9
            have HB9 := Lib.hid hB9
            clear hA9 hQ9 hZ9 hO9 hB9 hx9 hP9 hg9
            go_wp2_with fail
            exact ⟨⟨k + 1, by omega, by go_num, far4 HA9.out (by omega), far4 HQ9.out (by omega), far4 HZ9.out (by omega), by rw [HP.out]; exact stored4 HO9.out, bel4 HB9.out (by omega)⟩, by simp [intOf]; omega⟩
    · obtain rfl : k = 4 := by omega
      rw [E4.out] at hO
      have y0 := hO.cell 0
      have y1 := hO.cell 1
      have y2 := hO.cell 2
      have y3 := hO.cell 3
      simp at y0 y1 y2 y3
      have fry := hO.free
      have z0 := hZ.cell 0
      have z1 := hZ.cell 1
      have z2 := hZ.cell 2
      have z3 := hZ.cell 3
      simp at z0 z1 z2 z3
      have frz := hZ.free
      have ly := hO.lt
      have HZ := Lib.hid hZ
      have HB := Lib.hid hB
      clear hA hQ hZ hO hB hlt hk
      generalize b * q = M at *
      go_wp2_with fail
      refine bodyPost_ret (v := .tuple #[.agg #[.int .u64 (wd M 0 : Nat), .int .u64 (wd M 1 : Nat), .int .u64 (wd M 2 : Nat), .int .u64 (wd M 3 : Nat)], .bool true]) ?_ rfl ⟨rfl, ?_⟩
      · have b0 := ((((HZ.out.put 0 (.int .u64 (wd (M) 0 : Nat))).put 1 (.int .u64 (wd (M) 1 : Nat))).put 2 (.int .u64 (wd (M) 2 : Nat))).put 3 (.int .u64 (wd (M) 3 : Nat)))
        have z0 := b0.cell 0
        have z1 := b0.cell 1
        have z2 := b0.cell 2
        have z3 := b0.cell 3
        simp at z0 z1 z2 z3
        simp [results, Try.results37, go_sem, z0, z1, z2, z3]
      · exact (((HB.out.setCell (by first | (simp; done) | (simp; omega)) _).setCell (by first | (simp; done) | (simp; omega)) _).setCell (by first | (simp; done) | (simp; omega)) _).setCell (by first | (simp; done) | (simp; omega)) _
end Go.Proofs.Ytncfgllcleidnaa
