/- Does a name meet its bits, and the work of bits: the reference's walks, and the law. -/
import Derived.Test.YthmaijmjhfngpaaTgG
namespace Go.Proofs.Ythmaijmjhfngpaa
open Go.RowKit

set_option maxRecDepth 100000 in
set_option maxHeartbeats 16000000 in
theorem refMeets_case (c l X Y F : Nat) (e f M M2 : Int) (t1 t2 : Bool) (ch : Array Value) (hch : ch.size = 32) (w : World)
    (K1 : Hid (∀ w, Calls Try.prog 11 #[.int .u32 c] w (BRet (.tuple #[.agg #[.int .u64 (wd X 0 : Nat), .int .u64 (wd X 1 : Nat), .int .u64 (wd X 2 : Nat), .int .u64 (wd X 3 : Nat)], .int .i64 e]) w)))
    (K2 : Hid (∀ w, Calls Try.prog 11 #[.int .u32 l] w (BRet (.tuple #[.agg #[.int .u64 (wd Y 0 : Nat), .int .u64 (wd Y 1 : Nat), .int .u64 (wd Y 2 : Nat), .int .u64 (wd Y 3 : Nat)], .int .i64 f]) w)))
    (K3 : Hid (∀ w, Calls Try.prog 37 #[.agg #[.int .u64 (wd X 0 : Nat), .int .u64 (wd X 1 : Nat), .int .u64 (wd X 2 : Nat), .int .u64 (wd X 3 : Nat)], .agg #[.int .u64 (wd Y 0 : Nat), .int .u64 (wd Y 1 : Nat), .int .u64 (wd Y 2 : Nat), .int .u64 (wd Y 3 : Nat)]] w (BRet (.int .i64 M) w)))
    (K4 : Hid (∀ w, Calls Try.prog 38 #[.agg ch] w (BRet (.agg #[.int .u64 (wd F 0 : Nat), .int .u64 (wd F 1 : Nat), .int .u64 (wd F 2 : Nat), .int .u64 (wd F 3 : Nat)]) w)))
    (K5 : Hid (∀ w, Calls Try.prog 37 #[.agg #[.int .u64 (wd F 0 : Nat), .int .u64 (wd F 1 : Nat), .int .u64 (wd F 2 : Nat), .int .u64 (wd F 3 : Nat)], .agg #[.int .u64 (wd X 0 : Nat), .int .u64 (wd X 1 : Nat), .int .u64 (wd X 2 : Nat), .int .u64 (wd X 3 : Nat)]] w (BRet (.int .i64 M2) w)))
    (h1 : (e != 0) = t1) (h2 : (f != 0) = t2) :
    Calls Try.prog 16 #[.agg ch, .int .u32 c, .int .u32 l] w (BRet (.int .i64 (if t1 || t2 || decide (0 < M) then 11 else if 0 < M2 then 10 else 0)) w) := by
  have HCH := Lib.hid hch
  clear hch
  cases t1
  · cases t2
    · by_cases hM : 0 < M
      · simp only [hM, Bool.false_or, decide_true, if_true]
        go_enter Try.func16, Try.ntmps16
        go_wp2_with fail
        refine (K1.out _).mono ?_
        rintro e w1 ⟨rfl, hb1⟩
        have Hh1 := Lib.hid ((show IsBlk _ (w.heap.size) 35 ch from (IsBlk.newAt _ _ rfl)).after hb1)
        have HB1 := Lib.hid ((show Below w.heap.size w _ from by repeat' (first | exact Below.refl _ _ | refine bel_drewN ?_ _ | refine Below.drew ?_ | refine Below.alloc ?_ ?_ _ | refine Below.setCell ?_ ?_ _ | exact Nat.le_refl _ | (simp; done) | (simp; omega) | assumption)).trans (hb1.mono (by simp <;> omega)))
        clear hb1
        go_wp2_with fail
        refine (K2.out _).mono ?_
        rintro e w2 ⟨rfl, hb2⟩
        have Hh2 := Lib.hid ((Hh1.out.alloc _).after hb2)
        have Hx2 := Lib.hid ((show IsBlk _ (w1.heap.size) 25 #[.int .u64 (wd X 0 : Nat), .int .u64 (wd X 1 : Nat), .int .u64 (wd X 2 : Nat), .int .u64 (wd X 3 : Nat)] from (IsBlk.newAt _ _ rfl)).after hb2)
        have HB2 := Lib.hid (bel_on (bel_al HB1.out _) hb2)
        clear hb2
        clear Hh1 HB1
        have hx := Hx2.out
        have vx0 := hx.cell 0
        have vx1 := hx.cell 1
        have vx2 := hx.cell 2
        have vx3 := hx.cell 3
        simp at vx0 vx1 vx2 vx3
        have frvx := hx.free
        have lvx := hx.lt
        clear hx
        go_wp2_with fail
        refine (K3.out _).mono ?_
        rintro e w3 ⟨rfl, hb3⟩
        have Hh3 := Lib.hid ((Hh2.out.alloc _).after hb3)
        have Hx3 := Lib.hid ((Hx2.out.alloc _).after hb3)
        have HB3 := Lib.hid (bel_on (bel_al HB2.out _) hb3)
        clear vx0 vx1 vx2 vx3 frvx lvx
        clear hb3
        clear Hh2 Hx2 HB2
        go_wp2_with fail
        go_ret
        exact ⟨rfl, HB3.out⟩
      · by_cases hM2 : 0 < M2
        · simp only [hM, hM2, Bool.false_or, decide_false, if_true, Bool.false_eq_true, if_false]
          go_enter Try.func16, Try.ntmps16
          go_wp2_with fail
          refine (K1.out _).mono ?_
          rintro e w1 ⟨rfl, hb1⟩
          have Hh1 := Lib.hid ((show IsBlk _ (w.heap.size) 35 ch from (IsBlk.newAt _ _ rfl)).after hb1)
          have HB1 := Lib.hid ((show Below w.heap.size w _ from by repeat' (first | exact Below.refl _ _ | refine bel_drewN ?_ _ | refine Below.drew ?_ | refine Below.alloc ?_ ?_ _ | refine Below.setCell ?_ ?_ _ | exact Nat.le_refl _ | (simp; done) | (simp; omega) | assumption)).trans (hb1.mono (by simp <;> omega)))
          clear hb1
          go_wp2_with fail
          refine (K2.out _).mono ?_
          rintro e w2 ⟨rfl, hb2⟩
          have Hh2 := Lib.hid ((Hh1.out.alloc _).after hb2)
          have Hx2 := Lib.hid ((show IsBlk _ (w1.heap.size) 25 #[.int .u64 (wd X 0 : Nat), .int .u64 (wd X 1 : Nat), .int .u64 (wd X 2 : Nat), .int .u64 (wd X 3 : Nat)] from (IsBlk.newAt _ _ rfl)).after hb2)
          have HB2 := Lib.hid (bel_on (bel_al HB1.out _) hb2)
          clear hb2
          clear Hh1 HB1
          have hx := Hx2.out
          have vx0 := hx.cell 0
          have vx1 := hx.cell 1
          have vx2 := hx.cell 2
          have vx3 := hx.cell 3
          simp at vx0 vx1 vx2 vx3
          have frvx := hx.free
          have lvx := hx.lt
          clear hx
          go_wp2_with fail
          refine (K3.out _).mono ?_
          rintro e w3 ⟨rfl, hb3⟩
          have Hh3 := Lib.hid ((Hh2.out.alloc _).after hb3)
          have Hx3 := Lib.hid ((Hx2.out.alloc _).after hb3)
          have HB3 := Lib.hid (bel_on (bel_al HB2.out _) hb3)
          clear vx0 vx1 vx2 vx3 frvx lvx
          clear hb3
          clear Hh2 Hx2 HB2
          go_wp2_with fail
          have HLD := Lib.hid (fun w' (h : IsBlk w' w.heap.size 35 ch) => hash_load HCH.out h)
          refine wp_region_seq (S := fun w' => IsBlk w' w.heap.size 35 ch ∧ RB w' w1.heap.size X ∧ Below w.heap.size w w') (by kernel_rfl) (by kernel_rfl) ⟨Hh3.out.drew, RB.of Hx3.out.drew, HB3.out.drew⟩ ?_
          have HST := Lib.hid (show ∀ w1' w2', (IsBlk w1' w.heap.size 35 ch ∧ RB w1' w1.heap.size X ∧ Below w.heap.size w w1') → Below w1'.heap.size w1' w2' → (IsBlk w2' w.heap.size 35 ch ∧ RB w2' w1.heap.size X ∧ Below w.heap.size w w2') from fun _ _ h hb => ⟨h.1.after hb, h.2.1.later hb, bel_on h.2.2 hb⟩)
          generalize w1.heap.size = g1 at *
          repeat (first
            | (refine SeqS.skip ?_ ?_; rfl; (try simp only [Act.put, List.setIfInBounds_toArray, List.set_cons_zero, List.set_cons_succ]))
            | (refine SeqS.long 35 (.agg ch) ?_ rfl rfl (fun w hS => HLD.out w hS.1) ?_; rfl; (try simp only [Act.put, List.setIfInBounds_toArray, List.set_cons_zero, List.set_cons_succ]))
            | (refine SeqS.take (v := ?_) ?_ ?_ ?_; rotate_left; rfl; (intro w hS; simp only [RB] at hS; go_simp; with_reducible rfl); (try simp only [Act.put, List.setIfInBounds_toArray, List.set_cons_zero, List.set_cons_succ]))
            | (refine SeqS.call (v := ?_) (f := ?_) (args := ?_) ?_ ?_ ?_ ?_; rotate_left 3; rfl; (intro w hS; simp only [RB] at hS; go_simp; (first | with_reducible rfl | (refine ⟨?_, ?_⟩ <;> with_reducible rfl))); (intro w hS; first | ((with_reducible refine (K4.out _).mono ?_); rintro e w' ⟨rfl, hb⟩; refine ⟨?_, HST.out _ _ hS hb⟩; with_reducible rfl) | ((with_reducible refine (K5.out _).mono ?_); rintro e w' ⟨rfl, hb⟩; refine ⟨?_, HST.out _ _ hS hb⟩; with_reducible rfl)); (try simp only [Act.put, List.setIfInBounds_toArray, List.set_cons_zero, List.set_cons_succ])))
          refine SeqS.done ?_
          rintro wz ⟨_, _, hbz⟩
          go_wp2_with fail
          go_ret
          exact ⟨rfl, hbz⟩
        · simp only [hM, hM2, Bool.false_or, decide_false, Bool.false_eq_true, if_false]
          go_enter Try.func16, Try.ntmps16
          go_wp2_with fail
          refine (K1.out _).mono ?_
          rintro e w1 ⟨rfl, hb1⟩
          have Hh1 := Lib.hid ((show IsBlk _ (w.heap.size) 35 ch from (IsBlk.newAt _ _ rfl)).after hb1)
          have HB1 := Lib.hid ((show Below w.heap.size w _ from by repeat' (first | exact Below.refl _ _ | refine bel_drewN ?_ _ | refine Below.drew ?_ | refine Below.alloc ?_ ?_ _ | refine Below.setCell ?_ ?_ _ | exact Nat.le_refl _ | (simp; done) | (simp; omega) | assumption)).trans (hb1.mono (by simp <;> omega)))
          clear hb1
          go_wp2_with fail
          refine (K2.out _).mono ?_
          rintro e w2 ⟨rfl, hb2⟩
          have Hh2 := Lib.hid ((Hh1.out.alloc _).after hb2)
          have Hx2 := Lib.hid ((show IsBlk _ (w1.heap.size) 25 #[.int .u64 (wd X 0 : Nat), .int .u64 (wd X 1 : Nat), .int .u64 (wd X 2 : Nat), .int .u64 (wd X 3 : Nat)] from (IsBlk.newAt _ _ rfl)).after hb2)
          have HB2 := Lib.hid (bel_on (bel_al HB1.out _) hb2)
          clear hb2
          clear Hh1 HB1
          have hx := Hx2.out
          have vx0 := hx.cell 0
          have vx1 := hx.cell 1
          have vx2 := hx.cell 2
          have vx3 := hx.cell 3
          simp at vx0 vx1 vx2 vx3
          have frvx := hx.free
          have lvx := hx.lt
          clear hx
          go_wp2_with fail
          refine (K3.out _).mono ?_
          rintro e w3 ⟨rfl, hb3⟩
          have Hh3 := Lib.hid ((Hh2.out.alloc _).after hb3)
          have Hx3 := Lib.hid ((Hx2.out.alloc _).after hb3)
          have HB3 := Lib.hid (bel_on (bel_al HB2.out _) hb3)
          clear vx0 vx1 vx2 vx3 frvx lvx
          clear hb3
          clear Hh2 Hx2 HB2
          go_wp2_with fail
          have HLD := Lib.hid (fun w' (h : IsBlk w' w.heap.size 35 ch) => hash_load HCH.out h)
          refine wp_region_seq (S := fun w' => IsBlk w' w.heap.size 35 ch ∧ RB w' w1.heap.size X ∧ Below w.heap.size w w') (by kernel_rfl) (by kernel_rfl) ⟨Hh3.out.drew, RB.of Hx3.out.drew, HB3.out.drew⟩ ?_
          have HST := Lib.hid (show ∀ w1' w2', (IsBlk w1' w.heap.size 35 ch ∧ RB w1' w1.heap.size X ∧ Below w.heap.size w w1') → Below w1'.heap.size w1' w2' → (IsBlk w2' w.heap.size 35 ch ∧ RB w2' w1.heap.size X ∧ Below w.heap.size w w2') from fun _ _ h hb => ⟨h.1.after hb, h.2.1.later hb, bel_on h.2.2 hb⟩)
          generalize w1.heap.size = g1 at *
          repeat (first
            | (refine SeqS.skip ?_ ?_; rfl; (try simp only [Act.put, List.setIfInBounds_toArray, List.set_cons_zero, List.set_cons_succ]))
            | (refine SeqS.long 35 (.agg ch) ?_ rfl rfl (fun w hS => HLD.out w hS.1) ?_; rfl; (try simp only [Act.put, List.setIfInBounds_toArray, List.set_cons_zero, List.set_cons_succ]))
            | (refine SeqS.take (v := ?_) ?_ ?_ ?_; rotate_left; rfl; (intro w hS; simp only [RB] at hS; go_simp; with_reducible rfl); (try simp only [Act.put, List.setIfInBounds_toArray, List.set_cons_zero, List.set_cons_succ]))
            | (refine SeqS.call (v := ?_) (f := ?_) (args := ?_) ?_ ?_ ?_ ?_; rotate_left 3; rfl; (intro w hS; simp only [RB] at hS; go_simp; (first | with_reducible rfl | (refine ⟨?_, ?_⟩ <;> with_reducible rfl))); (intro w hS; first | ((with_reducible refine (K4.out _).mono ?_); rintro e w' ⟨rfl, hb⟩; refine ⟨?_, HST.out _ _ hS hb⟩; with_reducible rfl) | ((with_reducible refine (K5.out _).mono ?_); rintro e w' ⟨rfl, hb⟩; refine ⟨?_, HST.out _ _ hS hb⟩; with_reducible rfl)); (try simp only [Act.put, List.setIfInBounds_toArray, List.set_cons_zero, List.set_cons_succ])))
          refine SeqS.done ?_
          rintro wz ⟨_, _, hbz⟩
          go_wp2_with fail
          go_ret
          exact ⟨rfl, hbz⟩
    · simp only [Bool.false_or, Bool.true_or, if_true]
      go_enter Try.func16, Try.ntmps16
      go_wp2_with fail
      refine (K1.out _).mono ?_
      rintro e w1 ⟨rfl, hb1⟩
      have Hh1 := Lib.hid ((show IsBlk _ (w.heap.size) 35 ch from (IsBlk.newAt _ _ rfl)).after hb1)
      have HB1 := Lib.hid ((show Below w.heap.size w _ from by repeat' (first | exact Below.refl _ _ | refine bel_drewN ?_ _ | refine Below.drew ?_ | refine Below.alloc ?_ ?_ _ | refine Below.setCell ?_ ?_ _ | exact Nat.le_refl _ | (simp; done) | (simp; omega) | assumption)).trans (hb1.mono (by simp <;> omega)))
      clear hb1
      go_wp2_with fail
      refine (K2.out _).mono ?_
      rintro e w2 ⟨rfl, hb2⟩
      have Hh2 := Lib.hid ((Hh1.out.alloc _).after hb2)
      have Hx2 := Lib.hid ((show IsBlk _ (w1.heap.size) 25 #[.int .u64 (wd X 0 : Nat), .int .u64 (wd X 1 : Nat), .int .u64 (wd X 2 : Nat), .int .u64 (wd X 3 : Nat)] from (IsBlk.newAt _ _ rfl)).after hb2)
      have HB2 := Lib.hid (bel_on (bel_al HB1.out _) hb2)
      clear hb2
      clear Hh1 HB1
      go_wp2_with fail
      go_ret
      exact ⟨rfl, (bel_al HB2.out _)⟩
  · simp only [Bool.true_or, if_true]
    go_enter Try.func16, Try.ntmps16
    go_wp2_with fail
    refine (K1.out _).mono ?_
    rintro e w1 ⟨rfl, hb1⟩
    have Hh1 := Lib.hid ((show IsBlk _ (w.heap.size) 35 ch from (IsBlk.newAt _ _ rfl)).after hb1)
    have HB1 := Lib.hid ((show Below w.heap.size w _ from by repeat' (first | exact Below.refl _ _ | refine bel_drewN ?_ _ | refine Below.drew ?_ | refine Below.alloc ?_ ?_ _ | refine Below.setCell ?_ ?_ _ | exact Nat.le_refl _ | (simp; done) | (simp; omega) | assumption)).trans (hb1.mono (by simp <;> omega)))
    clear hb1
    go_wp2_with fail
    refine (K2.out _).mono ?_
    rintro e w2 ⟨rfl, hb2⟩
    have Hh2 := Lib.hid ((Hh1.out.alloc _).after hb2)
    have Hx2 := Lib.hid ((show IsBlk _ (w1.heap.size) 25 #[.int .u64 (wd X 0 : Nat), .int .u64 (wd X 1 : Nat), .int .u64 (wd X 2 : Nat), .int .u64 (wd X 3 : Nat)] from (IsBlk.newAt _ _ rfl)).after hb2)
    have HB2 := Lib.hid (bel_on (bel_al HB1.out _) hb2)
    clear hb2
    clear Hh1 HB1
    go_wp2_with fail
    go_ret
    exact ⟨rfl, (bel_al HB2.out _)⟩
theorem xE_ne (c : Nat) : (xE c != 0) = badB c := by unfold xE; cases badB c <;> rfl
theorem refMeets_any (f : Nat → Nat) (hf : ∀ j, f j < 256) (ch : Array Value) (hs : ch.size = 32) (hfc : FillB f 32 ch) (c l : Nat) (w : World) (hc : c < 4294967296) (hl : l < 4294967296) :
    Calls Try.prog 16 #[.agg ch, .int .u32 c, .int .u32 l] w (BRet (.int .i64 (meetN (ofBits (bitsOf f) 256) c l)) w) := by
  have hF : ofBits (bitsOf f) 256 < w256 := ofBits_lt _ 256
  have h := refMeets_case c l (xN c) (xN l) (ofBits (bitsOf f) 256) (xE c) (xE l) (cmpN (xN c) (xN l)) (cmpN (ofBits (bitsOf f) 256) (xN c)) _ _ ch hs w
    (Lib.hid fun w => refExpand_any c w hc) (Lib.hid fun w => refExpand_any l w hl) (Lib.hid fun w => refCmp_any _ _ w (xN_lt c) (xN_lt l)) (Lib.hid (refFrom_any f hf ch hs hfc)) (Lib.hid fun w => refCmp_any _ _ w hF (xN_lt c)) (xE_ne c) (xE_ne l)
  have e : (if badB c || badB l || decide (0 < cmpN (xN c) (xN l)) then (11 : Int) else if 0 < cmpN (ofBits (bitsOf f) 256) (xN c) then 10 else 0) = meetN (ofBits (bitsOf f) 256) c l := by
    unfold meetN
    rw [cmp_pos]
    have h2 : (0 < cmpN (ofBits (bitsOf f) 256) (xN c)) = (xN c < ofBits (bitsOf f) 256) := by
      have := cmp_pos (ofBits (bitsOf f) 256) (xN c)
      exact propext (decide_eq_decide.1 this)
    simp only [h2]
  rw [e] at h
  exact h

set_option maxRecDepth 100000 in
set_option maxHeartbeats 16000000 in
theorem refWork_case (c T N Z q r R1 F : Nat) (M : Int) (tie ov1 ov2 ov3 : Bool) (w : World)
    (K1 : Hid (∀ w, Calls Try.prog 11 #[.int .u32 c] w (BRet (.tuple #[.agg #[.int .u64 (wd T 0 : Nat), .int .u64 (wd T 1 : Nat), .int .u64 (wd T 2 : Nat), .int .u64 (wd T 3 : Nat)], .int .i64 0]) w)))
    (K2 : Hid (∀ w, Calls Try.prog 39 #[.agg #[.int .u64 (wd T 0 : Nat), .int .u64 (wd T 1 : Nat), .int .u64 (wd T 2 : Nat), .int .u64 (wd T 3 : Nat)], .agg #[.int .u64 1, .int .u64 0, .int .u64 0, .int .u64 0]] w (BRet (.tuple #[.agg #[.int .u64 (wd N 0 : Nat), .int .u64 (wd N 1 : Nat), .int .u64 (wd N 2 : Nat), .int .u64 (wd N 3 : Nat)], .bool ov1]) w)))
    (K3 : Hid (∀ w, Calls Try.prog 41 #[.agg #[.int .u64 0, .int .u64 0, .int .u64 0, .int .u64 0]] w (BRet (.agg #[.int .u64 (wd Z 0 : Nat), .int .u64 (wd Z 1 : Nat), .int .u64 (wd Z 2 : Nat), .int .u64 (wd Z 3 : Nat)]) w)))
    (K4 : Hid (∀ w, Calls Try.prog 40 #[.agg #[.int .u64 (wd Z 0 : Nat), .int .u64 (wd Z 1 : Nat), .int .u64 (wd Z 2 : Nat), .int .u64 (wd Z 3 : Nat)], .agg #[.int .u64 (wd N 0 : Nat), .int .u64 (wd N 1 : Nat), .int .u64 (wd N 2 : Nat), .int .u64 (wd N 3 : Nat)]] w (BRet (.tuple #[.agg #[.int .u64 (wd q 0 : Nat), .int .u64 (wd q 1 : Nat), .int .u64 (wd q 2 : Nat), .int .u64 (wd q 3 : Nat)], .agg #[.int .u64 (wd r 0 : Nat), .int .u64 (wd r 1 : Nat), .int .u64 (wd r 2 : Nat), .int .u64 (wd r 3 : Nat)], .int .i64 0]) w)))
    (K5 : Hid (∀ w, Calls Try.prog 39 #[.agg #[.int .u64 (wd r 0 : Nat), .int .u64 (wd r 1 : Nat), .int .u64 (wd r 2 : Nat), .int .u64 (wd r 3 : Nat)], .agg #[.int .u64 1, .int .u64 0, .int .u64 0, .int .u64 0]] w (BRet (.tuple #[.agg #[.int .u64 (wd R1 0 : Nat), .int .u64 (wd R1 1 : Nat), .int .u64 (wd R1 2 : Nat), .int .u64 (wd R1 3 : Nat)], .bool ov2]) w)))
    (K6 : Hid (∀ w, Calls Try.prog 37 #[.agg #[.int .u64 (wd R1 0 : Nat), .int .u64 (wd R1 1 : Nat), .int .u64 (wd R1 2 : Nat), .int .u64 (wd R1 3 : Nat)], .agg #[.int .u64 (wd N 0 : Nat), .int .u64 (wd N 1 : Nat), .int .u64 (wd N 2 : Nat), .int .u64 (wd N 3 : Nat)]] w (BRet (.int .i64 M) w)))
    (K7 : Hid (∀ w, Calls Try.prog 39 #[.agg #[.int .u64 (wd q 0 : Nat), .int .u64 (wd q 1 : Nat), .int .u64 (wd q 2 : Nat), .int .u64 (wd q 3 : Nat)], .agg #[.int .u64 1, .int .u64 0, .int .u64 0, .int .u64 0]] w (BRet (.tuple #[.agg #[.int .u64 (wd F 0 : Nat), .int .u64 (wd F 1 : Nat), .int .u64 (wd F 2 : Nat), .int .u64 (wd F 3 : Nat)], .bool ov3]) w)))
    (ht : (M == 0) = tie) :
    Calls Try.prog 18 #[.int .u32 c] w (BRet (if tie then .agg #[.int .u64 (wd F 0 : Nat), .int .u64 (wd F 1 : Nat), .int .u64 (wd F 2 : Nat), .int .u64 (wd F 3 : Nat)] else .agg #[.int .u64 (wd q 0 : Nat), .int .u64 (wd q 1 : Nat), .int .u64 (wd q 2 : Nat), .int .u64 (wd q 3 : Nat)]) w) := by
  obtain ⟨V, hV⟩ : ∃ V, (if tie then .agg #[.int .u64 (wd F 0 : Nat), .int .u64 (wd F 1 : Nat), .int .u64 (wd F 2 : Nat), .int .u64 (wd F 3 : Nat)] else .agg #[.int .u64 (wd q 0 : Nat), .int .u64 (wd q 1 : Nat), .int .u64 (wd q 2 : Nat), .int .u64 (wd q 3 : Nat)] : Value) = V := ⟨_, rfl⟩
  rw [hV]
  have HV := Lib.hid hV
  clear hV
  go_enter Try.func18, Try.ntmps18
  go_wp2_with fail
  refine (K1.out _).mono ?_
  rintro e w1 ⟨rfl, hb1⟩
  have Ho1 := Lib.hid ((show IsBlk _ (w.heap.size) 25 #[.int .u64 0, .int .u64 0, .int .u64 0, .int .u64 0] from (IsBlk.newAt _ _ rfl)).after hb1)
  have HB1 := Lib.hid ((show Below w.heap.size w _ from by repeat' (first | exact Below.refl _ _ | refine bel_drewN ?_ _ | refine Below.drew ?_ | refine Below.alloc ?_ ?_ _ | refine Below.setCell ?_ ?_ _ | exact Nat.le_refl _ | (simp; done) | (simp; omega) | assumption)).trans (hb1.mono (by simp <;> omega)))
  clear hb1
  go_wp2_with fail
  refine (K2.out _).mono ?_
  rintro e w2 ⟨rfl, hb2⟩
  have Ho2 := Lib.hid ((Ho1.out.alloc _).after hb2)
  have Ht2 := Lib.hid ((show IsBlk _ (w1.heap.size) 25 #[.int .u64 (wd T 0 : Nat), .int .u64 (wd T 1 : Nat), .int .u64 (wd T 2 : Nat), .int .u64 (wd T 3 : Nat)] from (IsBlk.newAt _ _ rfl)).after hb2)
  have HB2 := Lib.hid (bel_on (bel_al HB1.out _) hb2)
  clear hb2
  clear Ho1 HB1
  go_upto_region 5 with fail
  refine wp_gen (fun w' => IsBlk w' w.heap.size 25 #[.int .u64 0, .int .u64 0, .int .u64 0, .int .u64 0] ∧ IsBlk w' w2.heap.size 25 #[.int .u64 (wd N 0 : Nat), .int .u64 (wd N 1 : Nat), .int .u64 (wd N 2 : Nat), .int .u64 (wd N 3 : Nat)] ∧ Below w.heap.size w w')
    ⟨Ho2.out.alloc _, IsBlk.newAt _ _ rfl, bel_al HB2.out _⟩ ?_
  rintro w6 ⟨hO, hN, hB⟩
  generalize w2.heap.size = gn at *
  generalize w1.heap.size = gt at *
  have HO := Lib.hid hO
  have HN := Lib.hid hN
  have HB := Lib.hid hB
  have hol := hO.lt
  have hnl := hN.lt
  clear hO hN hB
  go_cut [7, 8] (fun s8 s9 wx => ∃ g8 g9 : Nat, s8 = .pointer (some ⟨g8, 0, none⟩) ∧ s9 = .pointer (some ⟨g9, 0, none⟩) ∧ w6.heap.size ≤ g8 ∧ Ext w6 wx ∧ IsBlk wx g8 25 #[.int .u64 (wd q 0 : Nat), .int .u64 (wd q 1 : Nat), .int .u64 (wd q 2 : Nat), .int .u64 (wd q 3 : Nat)] ∧ IsBlk wx g9 25 #[.int .u64 (wd r 0 : Nat), .int .u64 (wd r 1 : Nat), .int .u64 (wd r 2 : Nat), .int .u64 (wd r 3 : Nat)])
  case first =>
    refine Held.start 13 (Ext w6) (by kernel_rfl) rfl (Below.refl _ _).drew ?_
    (first | (refine Held.skip (i := 0) rfl (by kernel_rfl) (fun _ _ _ h => h) rfl ?_; (try (try simp only [Act.put, List.setIfInBounds_toArray, List.set_cons_zero, List.set_cons_succ]))) | (refine Held.take (i := 0) (v := ?_) rfl (by kernel_rfl) (fun _ _ _ h => h) rfl ?_ ?_; rotate_left; (intro w hS; have hE := hS; have hy := HN.out.after hE; have y0 := hy.cell 0; have y1 := hy.cell 1; have y2 := hy.cell 2; have y3 := hy.cell 3; simp at y0 y1 y2 y3; go_simp; with_reducible rfl); (try (try simp only [Act.put, List.setIfInBounds_toArray, List.set_cons_zero, List.set_cons_succ]))))
    (first | (refine Held.skip (i := 2) rfl (by kernel_rfl) (fun _ _ _ h => h) rfl ?_; (try (try simp only [Act.put, List.setIfInBounds_toArray, List.set_cons_zero, List.set_cons_succ]))) | (refine Held.take (i := 2) (v := ?_) rfl (by kernel_rfl) (fun _ _ _ h => h) rfl ?_ ?_; rotate_left; (intro w hS; have hE := hS; have hy := HN.out.after hE; have y0 := hy.cell 0; have y1 := hy.cell 1; have y2 := hy.cell 2; have y3 := hy.cell 3; simp at y0 y1 y2 y3; go_simp; with_reducible rfl); (try (try simp only [Act.put, List.setIfInBounds_toArray, List.set_cons_zero, List.set_cons_succ]))))
    refine Held.three (i := 1) (j := 8) (k := 9) (by kernel_rfl) ?_ ?_ ?_
    · refine HeldOp.call (i := 1) (f := ?_) (args := ?_) rfl rfl ?_ ?_
      rotate_left 2
      · (intro w hS; go_simp; (first | with_reducible rfl | (refine ⟨?_, ?_⟩ <;> with_reducible rfl)))
      intro wcx hSc
      (with_reducible refine (K3.out _).mono ?_)
      rintro e vc ⟨rfl, hb⟩
      refine ⟨_, rfl, (Ext w6), bel_on hSc hb, fun w h => h, ?_⟩
      clear hSc hb
      (try simp only [Act.put, List.setIfInBounds_toArray, List.set_cons_zero, List.set_cons_succ])
      refine Held.three (i := 3) (j := 8) (k := 9) (by kernel_rfl) ?_ ?_ ?_
      · refine HeldOp.call (i := 3) (f := ?_) (args := ?_) rfl rfl ?_ ?_
        rotate_left 2
        · (intro w hS; go_simp; (first | with_reducible rfl | (refine ⟨?_, ?_⟩ <;> with_reducible rfl)))
        intro wcx hSc
        (with_reducible refine (K4.out _).mono ?_)
        rintro e vc ⟨rfl, hb⟩
        refine ⟨_, rfl, (Ext w6), bel_on hSc hb, fun w h => h, ?_⟩
        clear hSc hb
        (try simp only [Act.put, List.setIfInBounds_toArray, List.set_cons_zero, List.set_cons_succ])
        (first | (refine Held.skip (i := 4) rfl (by kernel_rfl) (fun _ _ _ h => h) rfl ?_; (try (try simp only [Act.put, List.setIfInBounds_toArray, List.set_cons_zero, List.set_cons_succ]))) | (refine Held.take (i := 4) (v := ?_) rfl (by kernel_rfl) (fun _ _ _ h => h) rfl ?_ ?_; rotate_left; (intro w hS; have hE := hS; have hy := HN.out.after hE; have y0 := hy.cell 0; have y1 := hy.cell 1; have y2 := hy.cell 2; have y3 := hy.cell 3; simp at y0 y1 y2 y3; go_simp; with_reducible rfl); (try (try simp only [Act.put, List.setIfInBounds_toArray, List.set_cons_zero, List.set_cons_succ]))))
        (first | (refine Held.skip (i := 5) rfl (by kernel_rfl) (fun _ _ _ h => h) rfl ?_; (try (try simp only [Act.put, List.setIfInBounds_toArray, List.set_cons_zero, List.set_cons_succ]))) | (refine Held.take (i := 5) (v := ?_) rfl (by kernel_rfl) (fun _ _ _ h => h) rfl ?_ ?_; rotate_left; (intro w hS; have hE := hS; have hy := HN.out.after hE; have y0 := hy.cell 0; have y1 := hy.cell 1; have y2 := hy.cell 2; have y3 := hy.cell 3; simp at y0 y1 y2 y3; go_simp; with_reducible rfl); (try (try simp only [Act.put, List.setIfInBounds_toArray, List.set_cons_zero, List.set_cons_succ]))))
        (first | (refine Held.skip (i := 6) rfl (by kernel_rfl) (fun _ _ _ h => h) rfl ?_; (try (try simp only [Act.put, List.setIfInBounds_toArray, List.set_cons_zero, List.set_cons_succ]))) | (refine Held.take (i := 6) (v := ?_) rfl (by kernel_rfl) (fun _ _ _ h => h) rfl ?_ ?_; rotate_left; (intro w hS; have hE := hS; have hy := HN.out.after hE; have y0 := hy.cell 0; have y1 := hy.cell 1; have y2 := hy.cell 2; have y3 := hy.cell 3; simp at y0 y1 y2 y3; go_simp; with_reducible rfl); (try (try simp only [Act.put, List.setIfInBounds_toArray, List.set_cons_zero, List.set_cons_succ]))))
        (first | (refine Held.skip (i := 7) rfl (by kernel_rfl) (fun _ _ _ h => h) rfl ?_; (try (try simp only [Act.put, List.setIfInBounds_toArray, List.set_cons_zero, List.set_cons_succ]))) | (refine Held.take (i := 7) (v := ?_) rfl (by kernel_rfl) (fun _ _ _ h => h) rfl ?_ ?_; rotate_left; (intro w hS; have hE := hS; have hy := HN.out.after hE; have y0 := hy.cell 0; have y1 := hy.cell 1; have y2 := hy.cell 2; have y3 := hy.cell 3; simp at y0 y1 y2 y3; go_simp; with_reducible rfl); (try (try simp only [Act.put, List.setIfInBounds_toArray, List.set_cons_zero, List.set_cons_succ]))))
        refine Held.two (i := 8) (j := 9) (by kernel_rfl) ?_ ?_
        · refine HeldOp.step (i := 8) rfl rfl ?_
          intro wcx hSc
          have hg8 : w6.heap.size ≤ wcx.heap.size := Below.size (hSc)
          refine ⟨.pointer (some ⟨wcx.heap.size, 0, none⟩), wcx.alloc (.cells #[.int .u64 0, .int .u64 0, .int .u64 0, .int .u64 0] 25), .inl (by go_simp), (fun w' => Ext w6 w' ∧ Four w' wcx.heap.size), ⟨Below.alloc (hSc) (Below.size (hSc)) _, ⟨_, _, _, _, IsBlk.new _ _ _⟩⟩, fun w h => h.1, ?_⟩
          generalize wcx.heap.size = g8 at *
          clear hSc
          (try simp only [Act.put, List.setIfInBounds_toArray, List.set_cons_zero, List.set_cons_succ])
          refine Held.one (i := 9) (by kernel_rfl) ?_
          · refine HeldOp.step (i := 9) rfl rfl ?_
            intro wcx hSc
            have hg9 : w6.heap.size ≤ wcx.heap.size := Below.size (hSc.1)
            have hn9 : g8 < wcx.heap.size := Four.lt (hSc.2)
            refine ⟨.pointer (some ⟨wcx.heap.size, 0, none⟩), wcx.alloc (.cells #[.int .u64 0, .int .u64 0, .int .u64 0, .int .u64 0] 25), .inl (by go_simp), (fun w' => Ext w6 w' ∧ Four w' g8 ∧ Four w' wcx.heap.size), ⟨Below.alloc (hSc.1) (Below.size (hSc.1)) _, Four.alloc (hSc.2) _, ⟨_, _, _, _, IsBlk.new _ _ _⟩⟩, fun w h => ⟨h.1, h.2.1⟩, ?_⟩
            generalize wcx.heap.size = g9 at *
            clear hSc
            (try simp only [Act.put, List.setIfInBounds_toArray, List.set_cons_zero, List.set_cons_succ])
            refine Held.one (i := 10) (by kernel_rfl) ?_
            · refine HeldOp.step (i := 10) rfl rfl ?_
              intro wcx hSc
              obtain ⟨c0, c1, c2, c3, hblk⟩ := hSc.2.1
              refine ⟨undef, ((((wcx.setCell ⟨g8, 0, none⟩ (.int .u64 (wd q 0 : Nat))).setCell ⟨g8, 1, none⟩ (.int .u64 (wd q 1 : Nat))).setCell ⟨g8, 2, none⟩ (.int .u64 (wd q 2 : Nat))).setCell ⟨g8, 3, none⟩ (.int .u64 (wd q 3 : Nat))), .inr ⟨?_, rfl⟩, (fun w' => Ext w6 w' ∧ IsBlk w' g8 25 #[.int .u64 (wd q 0 : Nat), .int .u64 (wd q 1 : Nat), .int .u64 (wd q 2 : Nat), .int .u64 (wd q 3 : Nat)] ∧ Four w' g9), ⟨bel4 hSc.1 hg8, stored4 hblk, Four.far4 (hSc.2.2) (by omega)⟩, fun w h => ⟨h.1, ⟨_, _, _, _, h.2.1⟩, h.2.2⟩, ?_⟩
              · have b0 := hblk.cell 0
                have b1 := hblk.cell 1
                have b2 := hblk.cell 2
                have b3 := hblk.cell 3
                simp at b0 b1 b2 b3
                have frb := hblk.free
                have ltb := hblk.lt
                go_simp
              clear hSc hblk
              (try simp only [Act.put, List.setIfInBounds_toArray, List.set_cons_zero, List.set_cons_succ])
              refine Held.one (i := 11) (by kernel_rfl) ?_
              · refine HeldOp.step (i := 11) rfl rfl ?_
                intro wcx hSc
                obtain ⟨c0, c1, c2, c3, hblk⟩ := hSc.2.2
                refine ⟨undef, ((((wcx.setCell ⟨g9, 0, none⟩ (.int .u64 (wd r 0 : Nat))).setCell ⟨g9, 1, none⟩ (.int .u64 (wd r 1 : Nat))).setCell ⟨g9, 2, none⟩ (.int .u64 (wd r 2 : Nat))).setCell ⟨g9, 3, none⟩ (.int .u64 (wd r 3 : Nat))), .inr ⟨?_, rfl⟩, (fun w' => Ext w6 w' ∧ IsBlk w' g8 25 #[.int .u64 (wd q 0 : Nat), .int .u64 (wd q 1 : Nat), .int .u64 (wd q 2 : Nat), .int .u64 (wd q 3 : Nat)] ∧ IsBlk w' g9 25 #[.int .u64 (wd r 0 : Nat), .int .u64 (wd r 1 : Nat), .int .u64 (wd r 2 : Nat), .int .u64 (wd r 3 : Nat)]), ⟨bel4 hSc.1 hg9, far4 (hSc.2.1) (by omega), stored4 hblk⟩, fun w h => ⟨h.1, h.2.1, ⟨_, _, _, _, h.2.2⟩⟩, ?_⟩
                · have b0 := hblk.cell 0
                  have b1 := hblk.cell 1
                  have b2 := hblk.cell 2
                  have b3 := hblk.cell 3
                  simp at b0 b1 b2 b3
                  have frb := hblk.free
                  have ltb := hblk.lt
                  go_simp
                clear hSc hblk
                (try simp only [Act.put, List.setIfInBounds_toArray, List.set_cons_zero, List.set_cons_succ])
                (first | (refine Held.skip (i := 12) rfl (by kernel_rfl) (fun _ _ _ h => h) rfl ?_; (try (try simp only [Act.put, List.setIfInBounds_toArray, List.set_cons_zero, List.set_cons_succ]))) | (refine Held.take (i := 12) (v := ?_) rfl (by kernel_rfl) (fun _ _ _ h => h) rfl ?_ ?_; rotate_left; (intro w hS; have hE := hS.1; have hy := HN.out.after hE; have y0 := hy.cell 0; have y1 := hy.cell 1; have y2 := hy.cell 2; have y3 := hy.cell 3; simp at y0 y1 y2 y3; go_simp; with_reducible rfl); (try (try simp only [Act.put, List.setIfInBounds_toArray, List.set_cons_zero, List.set_cons_succ]))))
                refine Held.done (by kernel_rfl) ?_
                intro wz hz
                have hne : g8 ≠ g9 := by omega
                go_wp2_with fail
                go_meet
                exact ⟨g8, g9, rfl, rfl, hg8, hz.1, hz.2.1, hz.2.2⟩
        · refine HeldOp.step (i := 9) rfl rfl ?_
          intro wcx hSc
          have hg9 : w6.heap.size ≤ wcx.heap.size := Below.size (hSc)
          refine ⟨.pointer (some ⟨wcx.heap.size, 0, none⟩), wcx.alloc (.cells #[.int .u64 0, .int .u64 0, .int .u64 0, .int .u64 0] 25), .inl (by go_simp), (fun w' => Ext w6 w' ∧ Four w' wcx.heap.size), ⟨Below.alloc (hSc) (Below.size (hSc)) _, ⟨_, _, _, _, IsBlk.new _ _ _⟩⟩, fun w h => h.1, ?_⟩
          generalize wcx.heap.size = g9 at *
          clear hSc
          (try simp only [Act.put, List.setIfInBounds_toArray, List.set_cons_zero, List.set_cons_succ])
          refine Held.one (i := 8) (by kernel_rfl) ?_
          · refine HeldOp.step (i := 8) rfl rfl ?_
            intro wcx hSc
            have hg8 : w6.heap.size ≤ wcx.heap.size := Below.size (hSc.1)
            have hn8 : g9 < wcx.heap.size := Four.lt (hSc.2)
            refine ⟨.pointer (some ⟨wcx.heap.size, 0, none⟩), wcx.alloc (.cells #[.int .u64 0, .int .u64 0, .int .u64 0, .int .u64 0] 25), .inl (by go_simp), (fun w' => Ext w6 w' ∧ Four w' wcx.heap.size ∧ Four w' g9), ⟨Below.alloc (hSc.1) (Below.size (hSc.1)) _, ⟨_, _, _, _, IsBlk.new _ _ _⟩, Four.alloc (hSc.2) _⟩, fun w h => ⟨h.1, h.2.2⟩, ?_⟩
            generalize wcx.heap.size = g8 at *
            clear hSc
            (try simp only [Act.put, List.setIfInBounds_toArray, List.set_cons_zero, List.set_cons_succ])
            refine Held.one (i := 10) (by kernel_rfl) ?_
            · refine HeldOp.step (i := 10) rfl rfl ?_
              intro wcx hSc
              obtain ⟨c0, c1, c2, c3, hblk⟩ := hSc.2.1
              refine ⟨undef, ((((wcx.setCell ⟨g8, 0, none⟩ (.int .u64 (wd q 0 : Nat))).setCell ⟨g8, 1, none⟩ (.int .u64 (wd q 1 : Nat))).setCell ⟨g8, 2, none⟩ (.int .u64 (wd q 2 : Nat))).setCell ⟨g8, 3, none⟩ (.int .u64 (wd q 3 : Nat))), .inr ⟨?_, rfl⟩, (fun w' => Ext w6 w' ∧ IsBlk w' g8 25 #[.int .u64 (wd q 0 : Nat), .int .u64 (wd q 1 : Nat), .int .u64 (wd q 2 : Nat), .int .u64 (wd q 3 : Nat)] ∧ Four w' g9), ⟨bel4 hSc.1 hg8, stored4 hblk, Four.far4 (hSc.2.2) (by omega)⟩, fun w h => ⟨h.1, ⟨_, _, _, _, h.2.1⟩, h.2.2⟩, ?_⟩
              · have b0 := hblk.cell 0
                have b1 := hblk.cell 1
                have b2 := hblk.cell 2
                have b3 := hblk.cell 3
                simp at b0 b1 b2 b3
                have frb := hblk.free
                have ltb := hblk.lt
                go_simp
              clear hSc hblk
              (try simp only [Act.put, List.setIfInBounds_toArray, List.set_cons_zero, List.set_cons_succ])
              refine Held.one (i := 11) (by kernel_rfl) ?_
              · refine HeldOp.step (i := 11) rfl rfl ?_
                intro wcx hSc
                obtain ⟨c0, c1, c2, c3, hblk⟩ := hSc.2.2
                refine ⟨undef, ((((wcx.setCell ⟨g9, 0, none⟩ (.int .u64 (wd r 0 : Nat))).setCell ⟨g9, 1, none⟩ (.int .u64 (wd r 1 : Nat))).setCell ⟨g9, 2, none⟩ (.int .u64 (wd r 2 : Nat))).setCell ⟨g9, 3, none⟩ (.int .u64 (wd r 3 : Nat))), .inr ⟨?_, rfl⟩, (fun w' => Ext w6 w' ∧ IsBlk w' g8 25 #[.int .u64 (wd q 0 : Nat), .int .u64 (wd q 1 : Nat), .int .u64 (wd q 2 : Nat), .int .u64 (wd q 3 : Nat)] ∧ IsBlk w' g9 25 #[.int .u64 (wd r 0 : Nat), .int .u64 (wd r 1 : Nat), .int .u64 (wd r 2 : Nat), .int .u64 (wd r 3 : Nat)]), ⟨bel4 hSc.1 hg9, far4 (hSc.2.1) (by omega), stored4 hblk⟩, fun w h => ⟨h.1, h.2.1, ⟨_, _, _, _, h.2.2⟩⟩, ?_⟩
                · have b0 := hblk.cell 0
                  have b1 := hblk.cell 1
                  have b2 := hblk.cell 2
                  have b3 := hblk.cell 3
                  simp at b0 b1 b2 b3
                  have frb := hblk.free
                  have ltb := hblk.lt
                  go_simp
                clear hSc hblk
                (try simp only [Act.put, List.setIfInBounds_toArray, List.set_cons_zero, List.set_cons_succ])
                (first | (refine Held.skip (i := 12) rfl (by kernel_rfl) (fun _ _ _ h => h) rfl ?_; (try (try simp only [Act.put, List.setIfInBounds_toArray, List.set_cons_zero, List.set_cons_succ]))) | (refine Held.take (i := 12) (v := ?_) rfl (by kernel_rfl) (fun _ _ _ h => h) rfl ?_ ?_; rotate_left; (intro w hS; have hE := hS.1; have hy := HN.out.after hE; have y0 := hy.cell 0; have y1 := hy.cell 1; have y2 := hy.cell 2; have y3 := hy.cell 3; simp at y0 y1 y2 y3; go_simp; with_reducible rfl); (try (try simp only [Act.put, List.setIfInBounds_toArray, List.set_cons_zero, List.set_cons_succ]))))
                refine Held.done (by kernel_rfl) ?_
                intro wz hz
                have hne : g8 ≠ g9 := by omega
                go_wp2_with fail
                go_meet
                exact ⟨g8, g9, rfl, rfl, hg8, hz.1, hz.2.1, hz.2.2⟩
      · refine HeldOp.step (i := 8) rfl rfl ?_
        intro wcx hSc
        have hg8 : w6.heap.size ≤ wcx.heap.size := Below.size (hSc)
        refine ⟨.pointer (some ⟨wcx.heap.size, 0, none⟩), wcx.alloc (.cells #[.int .u64 0, .int .u64 0, .int .u64 0, .int .u64 0] 25), .inl (by go_simp), (fun w' => Ext w6 w' ∧ Four w' wcx.heap.size), ⟨Below.alloc (hSc) (Below.size (hSc)) _, ⟨_, _, _, _, IsBlk.new _ _ _⟩⟩, fun w h => h.1, ?_⟩
        generalize wcx.heap.size = g8 at *
        clear hSc
        (try simp only [Act.put, List.setIfInBounds_toArray, List.set_cons_zero, List.set_cons_succ])
        refine Held.two (i := 3) (j := 9) (by kernel_rfl) ?_ ?_
        · refine HeldOp.call (i := 3) (f := ?_) (args := ?_) rfl rfl ?_ ?_
          rotate_left 2
          · (intro w hS; go_simp; (first | with_reducible rfl | (refine ⟨?_, ?_⟩ <;> with_reducible rfl)))
          intro wcx hSc
          (with_reducible refine (K4.out _).mono ?_)
          rintro e vc ⟨rfl, hb⟩
          refine ⟨_, rfl, (fun w' => Ext w6 w' ∧ Four w' g8), ⟨bel_on hSc.1 hb, hSc.2.on hb⟩, fun w h => h, ?_⟩
          clear hSc hb
          (try simp only [Act.put, List.setIfInBounds_toArray, List.set_cons_zero, List.set_cons_succ])
          (first | (refine Held.skip (i := 4) rfl (by kernel_rfl) (fun _ _ _ h => h) rfl ?_; (try (try simp only [Act.put, List.setIfInBounds_toArray, List.set_cons_zero, List.set_cons_succ]))) | (refine Held.take (i := 4) (v := ?_) rfl (by kernel_rfl) (fun _ _ _ h => h) rfl ?_ ?_; rotate_left; (intro w hS; have hE := hS.1; have hy := HN.out.after hE; have y0 := hy.cell 0; have y1 := hy.cell 1; have y2 := hy.cell 2; have y3 := hy.cell 3; simp at y0 y1 y2 y3; go_simp; with_reducible rfl); (try (try simp only [Act.put, List.setIfInBounds_toArray, List.set_cons_zero, List.set_cons_succ]))))
          (first | (refine Held.skip (i := 5) rfl (by kernel_rfl) (fun _ _ _ h => h) rfl ?_; (try (try simp only [Act.put, List.setIfInBounds_toArray, List.set_cons_zero, List.set_cons_succ]))) | (refine Held.take (i := 5) (v := ?_) rfl (by kernel_rfl) (fun _ _ _ h => h) rfl ?_ ?_; rotate_left; (intro w hS; have hE := hS.1; have hy := HN.out.after hE; have y0 := hy.cell 0; have y1 := hy.cell 1; have y2 := hy.cell 2; have y3 := hy.cell 3; simp at y0 y1 y2 y3; go_simp; with_reducible rfl); (try (try simp only [Act.put, List.setIfInBounds_toArray, List.set_cons_zero, List.set_cons_succ]))))
          (first | (refine Held.skip (i := 6) rfl (by kernel_rfl) (fun _ _ _ h => h) rfl ?_; (try (try simp only [Act.put, List.setIfInBounds_toArray, List.set_cons_zero, List.set_cons_succ]))) | (refine Held.take (i := 6) (v := ?_) rfl (by kernel_rfl) (fun _ _ _ h => h) rfl ?_ ?_; rotate_left; (intro w hS; have hE := hS.1; have hy := HN.out.after hE; have y0 := hy.cell 0; have y1 := hy.cell 1; have y2 := hy.cell 2; have y3 := hy.cell 3; simp at y0 y1 y2 y3; go_simp; with_reducible rfl); (try (try simp only [Act.put, List.setIfInBounds_toArray, List.set_cons_zero, List.set_cons_succ]))))
          (first | (refine Held.skip (i := 7) rfl (by kernel_rfl) (fun _ _ _ h => h) rfl ?_; (try (try simp only [Act.put, List.setIfInBounds_toArray, List.set_cons_zero, List.set_cons_succ]))) | (refine Held.take (i := 7) (v := ?_) rfl (by kernel_rfl) (fun _ _ _ h => h) rfl ?_ ?_; rotate_left; (intro w hS; have hE := hS.1; have hy := HN.out.after hE; have y0 := hy.cell 0; have y1 := hy.cell 1; have y2 := hy.cell 2; have y3 := hy.cell 3; simp at y0 y1 y2 y3; go_simp; with_reducible rfl); (try (try simp only [Act.put, List.setIfInBounds_toArray, List.set_cons_zero, List.set_cons_succ]))))
          refine Held.one (i := 9) (by kernel_rfl) ?_
          · refine HeldOp.step (i := 9) rfl rfl ?_
            intro wcx hSc
            have hg9 : w6.heap.size ≤ wcx.heap.size := Below.size (hSc.1)
            have hn9 : g8 < wcx.heap.size := Four.lt (hSc.2)
            refine ⟨.pointer (some ⟨wcx.heap.size, 0, none⟩), wcx.alloc (.cells #[.int .u64 0, .int .u64 0, .int .u64 0, .int .u64 0] 25), .inl (by go_simp), (fun w' => Ext w6 w' ∧ Four w' g8 ∧ Four w' wcx.heap.size), ⟨Below.alloc (hSc.1) (Below.size (hSc.1)) _, Four.alloc (hSc.2) _, ⟨_, _, _, _, IsBlk.new _ _ _⟩⟩, fun w h => ⟨h.1, h.2.1⟩, ?_⟩
            generalize wcx.heap.size = g9 at *
            clear hSc
            (try simp only [Act.put, List.setIfInBounds_toArray, List.set_cons_zero, List.set_cons_succ])
            refine Held.one (i := 10) (by kernel_rfl) ?_
            · refine HeldOp.step (i := 10) rfl rfl ?_
              intro wcx hSc
              obtain ⟨c0, c1, c2, c3, hblk⟩ := hSc.2.1
              refine ⟨undef, ((((wcx.setCell ⟨g8, 0, none⟩ (.int .u64 (wd q 0 : Nat))).setCell ⟨g8, 1, none⟩ (.int .u64 (wd q 1 : Nat))).setCell ⟨g8, 2, none⟩ (.int .u64 (wd q 2 : Nat))).setCell ⟨g8, 3, none⟩ (.int .u64 (wd q 3 : Nat))), .inr ⟨?_, rfl⟩, (fun w' => Ext w6 w' ∧ IsBlk w' g8 25 #[.int .u64 (wd q 0 : Nat), .int .u64 (wd q 1 : Nat), .int .u64 (wd q 2 : Nat), .int .u64 (wd q 3 : Nat)] ∧ Four w' g9), ⟨bel4 hSc.1 hg8, stored4 hblk, Four.far4 (hSc.2.2) (by omega)⟩, fun w h => ⟨h.1, ⟨_, _, _, _, h.2.1⟩, h.2.2⟩, ?_⟩
              · have b0 := hblk.cell 0
                have b1 := hblk.cell 1
                have b2 := hblk.cell 2
                have b3 := hblk.cell 3
                simp at b0 b1 b2 b3
                have frb := hblk.free
                have ltb := hblk.lt
                go_simp
              clear hSc hblk
              (try simp only [Act.put, List.setIfInBounds_toArray, List.set_cons_zero, List.set_cons_succ])
              refine Held.one (i := 11) (by kernel_rfl) ?_
              · refine HeldOp.step (i := 11) rfl rfl ?_
                intro wcx hSc
                obtain ⟨c0, c1, c2, c3, hblk⟩ := hSc.2.2
                refine ⟨undef, ((((wcx.setCell ⟨g9, 0, none⟩ (.int .u64 (wd r 0 : Nat))).setCell ⟨g9, 1, none⟩ (.int .u64 (wd r 1 : Nat))).setCell ⟨g9, 2, none⟩ (.int .u64 (wd r 2 : Nat))).setCell ⟨g9, 3, none⟩ (.int .u64 (wd r 3 : Nat))), .inr ⟨?_, rfl⟩, (fun w' => Ext w6 w' ∧ IsBlk w' g8 25 #[.int .u64 (wd q 0 : Nat), .int .u64 (wd q 1 : Nat), .int .u64 (wd q 2 : Nat), .int .u64 (wd q 3 : Nat)] ∧ IsBlk w' g9 25 #[.int .u64 (wd r 0 : Nat), .int .u64 (wd r 1 : Nat), .int .u64 (wd r 2 : Nat), .int .u64 (wd r 3 : Nat)]), ⟨bel4 hSc.1 hg9, far4 (hSc.2.1) (by omega), stored4 hblk⟩, fun w h => ⟨h.1, h.2.1, ⟨_, _, _, _, h.2.2⟩⟩, ?_⟩
                · have b0 := hblk.cell 0
                  have b1 := hblk.cell 1
                  have b2 := hblk.cell 2
                  have b3 := hblk.cell 3
                  simp at b0 b1 b2 b3
                  have frb := hblk.free
                  have ltb := hblk.lt
                  go_simp
                clear hSc hblk
                (try simp only [Act.put, List.setIfInBounds_toArray, List.set_cons_zero, List.set_cons_succ])
                (first | (refine Held.skip (i := 12) rfl (by kernel_rfl) (fun _ _ _ h => h) rfl ?_; (try (try simp only [Act.put, List.setIfInBounds_toArray, List.set_cons_zero, List.set_cons_succ]))) | (refine Held.take (i := 12) (v := ?_) rfl (by kernel_rfl) (fun _ _ _ h => h) rfl ?_ ?_; rotate_left; (intro w hS; have hE := hS.1; have hy := HN.out.after hE; have y0 := hy.cell 0; have y1 := hy.cell 1; have y2 := hy.cell 2; have y3 := hy.cell 3; simp at y0 y1 y2 y3; go_simp; with_reducible rfl); (try (try simp only [Act.put, List.setIfInBounds_toArray, List.set_cons_zero, List.set_cons_succ]))))
                refine Held.done (by kernel_rfl) ?_
                intro wz hz
                have hne : g8 ≠ g9 := by omega
                go_wp2_with fail
                go_meet
                exact ⟨g8, g9, rfl, rfl, hg8, hz.1, hz.2.1, hz.2.2⟩
        · refine HeldOp.step (i := 9) rfl rfl ?_
          intro wcx hSc
          have hg9 : w6.heap.size ≤ wcx.heap.size := Below.size (hSc.1)
          have hn9 : g8 < wcx.heap.size := Four.lt (hSc.2)
          refine ⟨.pointer (some ⟨wcx.heap.size, 0, none⟩), wcx.alloc (.cells #[.int .u64 0, .int .u64 0, .int .u64 0, .int .u64 0] 25), .inl (by go_simp), (fun w' => Ext w6 w' ∧ Four w' g8 ∧ Four w' wcx.heap.size), ⟨Below.alloc (hSc.1) (Below.size (hSc.1)) _, Four.alloc (hSc.2) _, ⟨_, _, _, _, IsBlk.new _ _ _⟩⟩, fun w h => ⟨h.1, h.2.1⟩, ?_⟩
          generalize wcx.heap.size = g9 at *
          clear hSc
          (try simp only [Act.put, List.setIfInBounds_toArray, List.set_cons_zero, List.set_cons_succ])
          refine Held.one (i := 3) (by kernel_rfl) ?_
          · refine HeldOp.call (i := 3) (f := ?_) (args := ?_) rfl rfl ?_ ?_
            rotate_left 2
            · (intro w hS; go_simp; (first | with_reducible rfl | (refine ⟨?_, ?_⟩ <;> with_reducible rfl)))
            intro wcx hSc
            (with_reducible refine (K4.out _).mono ?_)
            rintro e vc ⟨rfl, hb⟩
            refine ⟨_, rfl, (fun w' => Ext w6 w' ∧ Four w' g8 ∧ Four w' g9), ⟨bel_on hSc.1 hb, hSc.2.1.on hb, hSc.2.2.on hb⟩, fun w h => h, ?_⟩
            clear hSc hb
            (try simp only [Act.put, List.setIfInBounds_toArray, List.set_cons_zero, List.set_cons_succ])
            (first | (refine Held.skip (i := 4) rfl (by kernel_rfl) (fun _ _ _ h => h) rfl ?_; (try (try simp only [Act.put, List.setIfInBounds_toArray, List.set_cons_zero, List.set_cons_succ]))) | (refine Held.take (i := 4) (v := ?_) rfl (by kernel_rfl) (fun _ _ _ h => h) rfl ?_ ?_; rotate_left; (intro w hS; have hE := hS.1; have hy := HN.out.after hE; have y0 := hy.cell 0; have y1 := hy.cell 1; have y2 := hy.cell 2; have y3 := hy.cell 3; simp at y0 y1 y2 y3; go_simp; with_reducible rfl); (try (try simp only [Act.put, List.setIfInBounds_toArray, List.set_cons_zero, List.set_cons_succ]))))
            (first | (refine Held.skip (i := 5) rfl (by kernel_rfl) (fun _ _ _ h => h) rfl ?_; (try (try simp only [Act.put, List.setIfInBounds_toArray, List.set_cons_zero, List.set_cons_succ]))) | (refine Held.take (i := 5) (v := ?_) rfl (by kernel_rfl) (fun _ _ _ h => h) rfl ?_ ?_; rotate_left; (intro w hS; have hE := hS.1; have hy := HN.out.after hE; have y0 := hy.cell 0; have y1 := hy.cell 1; have y2 := hy.cell 2; have y3 := hy.cell 3; simp at y0 y1 y2 y3; go_simp; with_reducible rfl); (try (try simp only [Act.put, List.setIfInBounds_toArray, List.set_cons_zero, List.set_cons_succ]))))
            (first | (refine Held.skip (i := 6) rfl (by kernel_rfl) (fun _ _ _ h => h) rfl ?_; (try (try simp only [Act.put, List.setIfInBounds_toArray, List.set_cons_zero, List.set_cons_succ]))) | (refine Held.take (i := 6) (v := ?_) rfl (by kernel_rfl) (fun _ _ _ h => h) rfl ?_ ?_; rotate_left; (intro w hS; have hE := hS.1; have hy := HN.out.after hE; have y0 := hy.cell 0; have y1 := hy.cell 1; have y2 := hy.cell 2; have y3 := hy.cell 3; simp at y0 y1 y2 y3; go_simp; with_reducible rfl); (try (try simp only [Act.put, List.setIfInBounds_toArray, List.set_cons_zero, List.set_cons_succ]))))
            (first | (refine Held.skip (i := 7) rfl (by kernel_rfl) (fun _ _ _ h => h) rfl ?_; (try (try simp only [Act.put, List.setIfInBounds_toArray, List.set_cons_zero, List.set_cons_succ]))) | (refine Held.take (i := 7) (v := ?_) rfl (by kernel_rfl) (fun _ _ _ h => h) rfl ?_ ?_; rotate_left; (intro w hS; have hE := hS.1; have hy := HN.out.after hE; have y0 := hy.cell 0; have y1 := hy.cell 1; have y2 := hy.cell 2; have y3 := hy.cell 3; simp at y0 y1 y2 y3; go_simp; with_reducible rfl); (try (try simp only [Act.put, List.setIfInBounds_toArray, List.set_cons_zero, List.set_cons_succ]))))
            refine Held.one (i := 10) (by kernel_rfl) ?_
            · refine HeldOp.step (i := 10) rfl rfl ?_
              intro wcx hSc
              obtain ⟨c0, c1, c2, c3, hblk⟩ := hSc.2.1
              refine ⟨undef, ((((wcx.setCell ⟨g8, 0, none⟩ (.int .u64 (wd q 0 : Nat))).setCell ⟨g8, 1, none⟩ (.int .u64 (wd q 1 : Nat))).setCell ⟨g8, 2, none⟩ (.int .u64 (wd q 2 : Nat))).setCell ⟨g8, 3, none⟩ (.int .u64 (wd q 3 : Nat))), .inr ⟨?_, rfl⟩, (fun w' => Ext w6 w' ∧ IsBlk w' g8 25 #[.int .u64 (wd q 0 : Nat), .int .u64 (wd q 1 : Nat), .int .u64 (wd q 2 : Nat), .int .u64 (wd q 3 : Nat)] ∧ Four w' g9), ⟨bel4 hSc.1 hg8, stored4 hblk, Four.far4 (hSc.2.2) (by omega)⟩, fun w h => ⟨h.1, ⟨_, _, _, _, h.2.1⟩, h.2.2⟩, ?_⟩
              · have b0 := hblk.cell 0
                have b1 := hblk.cell 1
                have b2 := hblk.cell 2
                have b3 := hblk.cell 3
                simp at b0 b1 b2 b3
                have frb := hblk.free
                have ltb := hblk.lt
                go_simp
              clear hSc hblk
              (try simp only [Act.put, List.setIfInBounds_toArray, List.set_cons_zero, List.set_cons_succ])
              refine Held.one (i := 11) (by kernel_rfl) ?_
              · refine HeldOp.step (i := 11) rfl rfl ?_
                intro wcx hSc
                obtain ⟨c0, c1, c2, c3, hblk⟩ := hSc.2.2
                refine ⟨undef, ((((wcx.setCell ⟨g9, 0, none⟩ (.int .u64 (wd r 0 : Nat))).setCell ⟨g9, 1, none⟩ (.int .u64 (wd r 1 : Nat))).setCell ⟨g9, 2, none⟩ (.int .u64 (wd r 2 : Nat))).setCell ⟨g9, 3, none⟩ (.int .u64 (wd r 3 : Nat))), .inr ⟨?_, rfl⟩, (fun w' => Ext w6 w' ∧ IsBlk w' g8 25 #[.int .u64 (wd q 0 : Nat), .int .u64 (wd q 1 : Nat), .int .u64 (wd q 2 : Nat), .int .u64 (wd q 3 : Nat)] ∧ IsBlk w' g9 25 #[.int .u64 (wd r 0 : Nat), .int .u64 (wd r 1 : Nat), .int .u64 (wd r 2 : Nat), .int .u64 (wd r 3 : Nat)]), ⟨bel4 hSc.1 hg9, far4 (hSc.2.1) (by omega), stored4 hblk⟩, fun w h => ⟨h.1, h.2.1, ⟨_, _, _, _, h.2.2⟩⟩, ?_⟩
                · have b0 := hblk.cell 0
                  have b1 := hblk.cell 1
                  have b2 := hblk.cell 2
                  have b3 := hblk.cell 3
                  simp at b0 b1 b2 b3
                  have frb := hblk.free
                  have ltb := hblk.lt
                  go_simp
                clear hSc hblk
                (try simp only [Act.put, List.setIfInBounds_toArray, List.set_cons_zero, List.set_cons_succ])
                (first | (refine Held.skip (i := 12) rfl (by kernel_rfl) (fun _ _ _ h => h) rfl ?_; (try (try simp only [Act.put, List.setIfInBounds_toArray, List.set_cons_zero, List.set_cons_succ]))) | (refine Held.take (i := 12) (v := ?_) rfl (by kernel_rfl) (fun _ _ _ h => h) rfl ?_ ?_; rotate_left; (intro w hS; have hE := hS.1; have hy := HN.out.after hE; have y0 := hy.cell 0; have y1 := hy.cell 1; have y2 := hy.cell 2; have y3 := hy.cell 3; simp at y0 y1 y2 y3; go_simp; with_reducible rfl); (try (try simp only [Act.put, List.setIfInBounds_toArray, List.set_cons_zero, List.set_cons_succ]))))
                refine Held.done (by kernel_rfl) ?_
                intro wz hz
                have hne : g8 ≠ g9 := by omega
                go_wp2_with fail
                go_meet
                exact ⟨g8, g9, rfl, rfl, hg8, hz.1, hz.2.1, hz.2.2⟩
      · refine HeldOp.step (i := 9) rfl rfl ?_
        intro wcx hSc
        have hg9 : w6.heap.size ≤ wcx.heap.size := Below.size (hSc)
        refine ⟨.pointer (some ⟨wcx.heap.size, 0, none⟩), wcx.alloc (.cells #[.int .u64 0, .int .u64 0, .int .u64 0, .int .u64 0] 25), .inl (by go_simp), (fun w' => Ext w6 w' ∧ Four w' wcx.heap.size), ⟨Below.alloc (hSc) (Below.size (hSc)) _, ⟨_, _, _, _, IsBlk.new _ _ _⟩⟩, fun w h => h.1, ?_⟩
        generalize wcx.heap.size = g9 at *
        clear hSc
        (try simp only [Act.put, List.setIfInBounds_toArray, List.set_cons_zero, List.set_cons_succ])
        refine Held.two (i := 3) (j := 8) (by kernel_rfl) ?_ ?_
        · refine HeldOp.call (i := 3) (f := ?_) (args := ?_) rfl rfl ?_ ?_
          rotate_left 2
          · (intro w hS; go_simp; (first | with_reducible rfl | (refine ⟨?_, ?_⟩ <;> with_reducible rfl)))
          intro wcx hSc
          (with_reducible refine (K4.out _).mono ?_)
          rintro e vc ⟨rfl, hb⟩
          refine ⟨_, rfl, (fun w' => Ext w6 w' ∧ Four w' g9), ⟨bel_on hSc.1 hb, hSc.2.on hb⟩, fun w h => h, ?_⟩
          clear hSc hb
          (try simp only [Act.put, List.setIfInBounds_toArray, List.set_cons_zero, List.set_cons_succ])
          (first | (refine Held.skip (i := 4) rfl (by kernel_rfl) (fun _ _ _ h => h) rfl ?_; (try (try simp only [Act.put, List.setIfInBounds_toArray, List.set_cons_zero, List.set_cons_succ]))) | (refine Held.take (i := 4) (v := ?_) rfl (by kernel_rfl) (fun _ _ _ h => h) rfl ?_ ?_; rotate_left; (intro w hS; have hE := hS.1; have hy := HN.out.after hE; have y0 := hy.cell 0; have y1 := hy.cell 1; have y2 := hy.cell 2; have y3 := hy.cell 3; simp at y0 y1 y2 y3; go_simp; with_reducible rfl); (try (try simp only [Act.put, List.setIfInBounds_toArray, List.set_cons_zero, List.set_cons_succ]))))
          (first | (refine Held.skip (i := 5) rfl (by kernel_rfl) (fun _ _ _ h => h) rfl ?_; (try (try simp only [Act.put, List.setIfInBounds_toArray, List.set_cons_zero, List.set_cons_succ]))) | (refine Held.take (i := 5) (v := ?_) rfl (by kernel_rfl) (fun _ _ _ h => h) rfl ?_ ?_; rotate_left; (intro w hS; have hE := hS.1; have hy := HN.out.after hE; have y0 := hy.cell 0; have y1 := hy.cell 1; have y2 := hy.cell 2; have y3 := hy.cell 3; simp at y0 y1 y2 y3; go_simp; with_reducible rfl); (try (try simp only [Act.put, List.setIfInBounds_toArray, List.set_cons_zero, List.set_cons_succ]))))
          (first | (refine Held.skip (i := 6) rfl (by kernel_rfl) (fun _ _ _ h => h) rfl ?_; (try (try simp only [Act.put, List.setIfInBounds_toArray, List.set_cons_zero, List.set_cons_succ]))) | (refine Held.take (i := 6) (v := ?_) rfl (by kernel_rfl) (fun _ _ _ h => h) rfl ?_ ?_; rotate_left; (intro w hS; have hE := hS.1; have hy := HN.out.after hE; have y0 := hy.cell 0; have y1 := hy.cell 1; have y2 := hy.cell 2; have y3 := hy.cell 3; simp at y0 y1 y2 y3; go_simp; with_reducible rfl); (try (try simp only [Act.put, List.setIfInBounds_toArray, List.set_cons_zero, List.set_cons_succ]))))
          (first | (refine Held.skip (i := 7) rfl (by kernel_rfl) (fun _ _ _ h => h) rfl ?_; (try (try simp only [Act.put, List.setIfInBounds_toArray, List.set_cons_zero, List.set_cons_succ]))) | (refine Held.take (i := 7) (v := ?_) rfl (by kernel_rfl) (fun _ _ _ h => h) rfl ?_ ?_; rotate_left; (intro w hS; have hE := hS.1; have hy := HN.out.after hE; have y0 := hy.cell 0; have y1 := hy.cell 1; have y2 := hy.cell 2; have y3 := hy.cell 3; simp at y0 y1 y2 y3; go_simp; with_reducible rfl); (try (try simp only [Act.put, List.setIfInBounds_toArray, List.set_cons_zero, List.set_cons_succ]))))
          refine Held.one (i := 8) (by kernel_rfl) ?_
          · refine HeldOp.step (i := 8) rfl rfl ?_
            intro wcx hSc
            have hg8 : w6.heap.size ≤ wcx.heap.size := Below.size (hSc.1)
            have hn8 : g9 < wcx.heap.size := Four.lt (hSc.2)
            refine ⟨.pointer (some ⟨wcx.heap.size, 0, none⟩), wcx.alloc (.cells #[.int .u64 0, .int .u64 0, .int .u64 0, .int .u64 0] 25), .inl (by go_simp), (fun w' => Ext w6 w' ∧ Four w' wcx.heap.size ∧ Four w' g9), ⟨Below.alloc (hSc.1) (Below.size (hSc.1)) _, ⟨_, _, _, _, IsBlk.new _ _ _⟩, Four.alloc (hSc.2) _⟩, fun w h => ⟨h.1, h.2.2⟩, ?_⟩
            generalize wcx.heap.size = g8 at *
            clear hSc
            (try simp only [Act.put, List.setIfInBounds_toArray, List.set_cons_zero, List.set_cons_succ])
            refine Held.one (i := 10) (by kernel_rfl) ?_
            · refine HeldOp.step (i := 10) rfl rfl ?_
              intro wcx hSc
              obtain ⟨c0, c1, c2, c3, hblk⟩ := hSc.2.1
              refine ⟨undef, ((((wcx.setCell ⟨g8, 0, none⟩ (.int .u64 (wd q 0 : Nat))).setCell ⟨g8, 1, none⟩ (.int .u64 (wd q 1 : Nat))).setCell ⟨g8, 2, none⟩ (.int .u64 (wd q 2 : Nat))).setCell ⟨g8, 3, none⟩ (.int .u64 (wd q 3 : Nat))), .inr ⟨?_, rfl⟩, (fun w' => Ext w6 w' ∧ IsBlk w' g8 25 #[.int .u64 (wd q 0 : Nat), .int .u64 (wd q 1 : Nat), .int .u64 (wd q 2 : Nat), .int .u64 (wd q 3 : Nat)] ∧ Four w' g9), ⟨bel4 hSc.1 hg8, stored4 hblk, Four.far4 (hSc.2.2) (by omega)⟩, fun w h => ⟨h.1, ⟨_, _, _, _, h.2.1⟩, h.2.2⟩, ?_⟩
              · have b0 := hblk.cell 0
                have b1 := hblk.cell 1
                have b2 := hblk.cell 2
                have b3 := hblk.cell 3
                simp at b0 b1 b2 b3
                have frb := hblk.free
                have ltb := hblk.lt
                go_simp
              clear hSc hblk
              (try simp only [Act.put, List.setIfInBounds_toArray, List.set_cons_zero, List.set_cons_succ])
              refine Held.one (i := 11) (by kernel_rfl) ?_
              · refine HeldOp.step (i := 11) rfl rfl ?_
                intro wcx hSc
                obtain ⟨c0, c1, c2, c3, hblk⟩ := hSc.2.2
                refine ⟨undef, ((((wcx.setCell ⟨g9, 0, none⟩ (.int .u64 (wd r 0 : Nat))).setCell ⟨g9, 1, none⟩ (.int .u64 (wd r 1 : Nat))).setCell ⟨g9, 2, none⟩ (.int .u64 (wd r 2 : Nat))).setCell ⟨g9, 3, none⟩ (.int .u64 (wd r 3 : Nat))), .inr ⟨?_, rfl⟩, (fun w' => Ext w6 w' ∧ IsBlk w' g8 25 #[.int .u64 (wd q 0 : Nat), .int .u64 (wd q 1 : Nat), .int .u64 (wd q 2 : Nat), .int .u64 (wd q 3 : Nat)] ∧ IsBlk w' g9 25 #[.int .u64 (wd r 0 : Nat), .int .u64 (wd r 1 : Nat), .int .u64 (wd r 2 : Nat), .int .u64 (wd r 3 : Nat)]), ⟨bel4 hSc.1 hg9, far4 (hSc.2.1) (by omega), stored4 hblk⟩, fun w h => ⟨h.1, h.2.1, ⟨_, _, _, _, h.2.2⟩⟩, ?_⟩
                · have b0 := hblk.cell 0
                  have b1 := hblk.cell 1
                  have b2 := hblk.cell 2
                  have b3 := hblk.cell 3
                  simp at b0 b1 b2 b3
                  have frb := hblk.free
                  have ltb := hblk.lt
                  go_simp
                clear hSc hblk
                (try simp only [Act.put, List.setIfInBounds_toArray, List.set_cons_zero, List.set_cons_succ])
                (first | (refine Held.skip (i := 12) rfl (by kernel_rfl) (fun _ _ _ h => h) rfl ?_; (try (try simp only [Act.put, List.setIfInBounds_toArray, List.set_cons_zero, List.set_cons_succ]))) | (refine Held.take (i := 12) (v := ?_) rfl (by kernel_rfl) (fun _ _ _ h => h) rfl ?_ ?_; rotate_left; (intro w hS; have hE := hS.1; have hy := HN.out.after hE; have y0 := hy.cell 0; have y1 := hy.cell 1; have y2 := hy.cell 2; have y3 := hy.cell 3; simp at y0 y1 y2 y3; go_simp; with_reducible rfl); (try (try simp only [Act.put, List.setIfInBounds_toArray, List.set_cons_zero, List.set_cons_succ]))))
                refine Held.done (by kernel_rfl) ?_
                intro wz hz
                have hne : g8 ≠ g9 := by omega
                go_wp2_with fail
                go_meet
                exact ⟨g8, g9, rfl, rfl, hg8, hz.1, hz.2.1, hz.2.2⟩
        · refine HeldOp.step (i := 8) rfl rfl ?_
          intro wcx hSc
          have hg8 : w6.heap.size ≤ wcx.heap.size := Below.size (hSc.1)
          have hn8 : g9 < wcx.heap.size := Four.lt (hSc.2)
          refine ⟨.pointer (some ⟨wcx.heap.size, 0, none⟩), wcx.alloc (.cells #[.int .u64 0, .int .u64 0, .int .u64 0, .int .u64 0] 25), .inl (by go_simp), (fun w' => Ext w6 w' ∧ Four w' wcx.heap.size ∧ Four w' g9), ⟨Below.alloc (hSc.1) (Below.size (hSc.1)) _, ⟨_, _, _, _, IsBlk.new _ _ _⟩, Four.alloc (hSc.2) _⟩, fun w h => ⟨h.1, h.2.2⟩, ?_⟩
          generalize wcx.heap.size = g8 at *
          clear hSc
          (try simp only [Act.put, List.setIfInBounds_toArray, List.set_cons_zero, List.set_cons_succ])
          refine Held.one (i := 3) (by kernel_rfl) ?_
          · refine HeldOp.call (i := 3) (f := ?_) (args := ?_) rfl rfl ?_ ?_
            rotate_left 2
            · (intro w hS; go_simp; (first | with_reducible rfl | (refine ⟨?_, ?_⟩ <;> with_reducible rfl)))
            intro wcx hSc
            (with_reducible refine (K4.out _).mono ?_)
            rintro e vc ⟨rfl, hb⟩
            refine ⟨_, rfl, (fun w' => Ext w6 w' ∧ Four w' g8 ∧ Four w' g9), ⟨bel_on hSc.1 hb, hSc.2.1.on hb, hSc.2.2.on hb⟩, fun w h => h, ?_⟩
            clear hSc hb
            (try simp only [Act.put, List.setIfInBounds_toArray, List.set_cons_zero, List.set_cons_succ])
            (first | (refine Held.skip (i := 4) rfl (by kernel_rfl) (fun _ _ _ h => h) rfl ?_; (try (try simp only [Act.put, List.setIfInBounds_toArray, List.set_cons_zero, List.set_cons_succ]))) | (refine Held.take (i := 4) (v := ?_) rfl (by kernel_rfl) (fun _ _ _ h => h) rfl ?_ ?_; rotate_left; (intro w hS; have hE := hS.1; have hy := HN.out.after hE; have y0 := hy.cell 0; have y1 := hy.cell 1; have y2 := hy.cell 2; have y3 := hy.cell 3; simp at y0 y1 y2 y3; go_simp; with_reducible rfl); (try (try simp only [Act.put, List.setIfInBounds_toArray, List.set_cons_zero, List.set_cons_succ]))))
            (first | (refine Held.skip (i := 5) rfl (by kernel_rfl) (fun _ _ _ h => h) rfl ?_; (try (try simp only [Act.put, List.setIfInBounds_toArray, List.set_cons_zero, List.set_cons_succ]))) | (refine Held.take (i := 5) (v := ?_) rfl (by kernel_rfl) (fun _ _ _ h => h) rfl ?_ ?_; rotate_left; (intro w hS; have hE := hS.1; have hy := HN.out.after hE; have y0 := hy.cell 0; have y1 := hy.cell 1; have y2 := hy.cell 2; have y3 := hy.cell 3; simp at y0 y1 y2 y3; go_simp; with_reducible rfl); (try (try simp only [Act.put, List.setIfInBounds_toArray, List.set_cons_zero, List.set_cons_succ]))))
            (first | (refine Held.skip (i := 6) rfl (by kernel_rfl) (fun _ _ _ h => h) rfl ?_; (try (try simp only [Act.put, List.setIfInBounds_toArray, List.set_cons_zero, List.set_cons_succ]))) | (refine Held.take (i := 6) (v := ?_) rfl (by kernel_rfl) (fun _ _ _ h => h) rfl ?_ ?_; rotate_left; (intro w hS; have hE := hS.1; have hy := HN.out.after hE; have y0 := hy.cell 0; have y1 := hy.cell 1; have y2 := hy.cell 2; have y3 := hy.cell 3; simp at y0 y1 y2 y3; go_simp; with_reducible rfl); (try (try simp only [Act.put, List.setIfInBounds_toArray, List.set_cons_zero, List.set_cons_succ]))))
            (first | (refine Held.skip (i := 7) rfl (by kernel_rfl) (fun _ _ _ h => h) rfl ?_; (try (try simp only [Act.put, List.setIfInBounds_toArray, List.set_cons_zero, List.set_cons_succ]))) | (refine Held.take (i := 7) (v := ?_) rfl (by kernel_rfl) (fun _ _ _ h => h) rfl ?_ ?_; rotate_left; (intro w hS; have hE := hS.1; have hy := HN.out.after hE; have y0 := hy.cell 0; have y1 := hy.cell 1; have y2 := hy.cell 2; have y3 := hy.cell 3; simp at y0 y1 y2 y3; go_simp; with_reducible rfl); (try (try simp only [Act.put, List.setIfInBounds_toArray, List.set_cons_zero, List.set_cons_succ]))))
            refine Held.one (i := 10) (by kernel_rfl) ?_
            · refine HeldOp.step (i := 10) rfl rfl ?_
              intro wcx hSc
              obtain ⟨c0, c1, c2, c3, hblk⟩ := hSc.2.1
              refine ⟨undef, ((((wcx.setCell ⟨g8, 0, none⟩ (.int .u64 (wd q 0 : Nat))).setCell ⟨g8, 1, none⟩ (.int .u64 (wd q 1 : Nat))).setCell ⟨g8, 2, none⟩ (.int .u64 (wd q 2 : Nat))).setCell ⟨g8, 3, none⟩ (.int .u64 (wd q 3 : Nat))), .inr ⟨?_, rfl⟩, (fun w' => Ext w6 w' ∧ IsBlk w' g8 25 #[.int .u64 (wd q 0 : Nat), .int .u64 (wd q 1 : Nat), .int .u64 (wd q 2 : Nat), .int .u64 (wd q 3 : Nat)] ∧ Four w' g9), ⟨bel4 hSc.1 hg8, stored4 hblk, Four.far4 (hSc.2.2) (by omega)⟩, fun w h => ⟨h.1, ⟨_, _, _, _, h.2.1⟩, h.2.2⟩, ?_⟩
              · have b0 := hblk.cell 0
                have b1 := hblk.cell 1
                have b2 := hblk.cell 2
                have b3 := hblk.cell 3
                simp at b0 b1 b2 b3
                have frb := hblk.free
                have ltb := hblk.lt
                go_simp
              clear hSc hblk
              (try simp only [Act.put, List.setIfInBounds_toArray, List.set_cons_zero, List.set_cons_succ])
              refine Held.one (i := 11) (by kernel_rfl) ?_
              · refine HeldOp.step (i := 11) rfl rfl ?_
                intro wcx hSc
                obtain ⟨c0, c1, c2, c3, hblk⟩ := hSc.2.2
                refine ⟨undef, ((((wcx.setCell ⟨g9, 0, none⟩ (.int .u64 (wd r 0 : Nat))).setCell ⟨g9, 1, none⟩ (.int .u64 (wd r 1 : Nat))).setCell ⟨g9, 2, none⟩ (.int .u64 (wd r 2 : Nat))).setCell ⟨g9, 3, none⟩ (.int .u64 (wd r 3 : Nat))), .inr ⟨?_, rfl⟩, (fun w' => Ext w6 w' ∧ IsBlk w' g8 25 #[.int .u64 (wd q 0 : Nat), .int .u64 (wd q 1 : Nat), .int .u64 (wd q 2 : Nat), .int .u64 (wd q 3 : Nat)] ∧ IsBlk w' g9 25 #[.int .u64 (wd r 0 : Nat), .int .u64 (wd r 1 : Nat), .int .u64 (wd r 2 : Nat), .int .u64 (wd r 3 : Nat)]), ⟨bel4 hSc.1 hg9, far4 (hSc.2.1) (by omega), stored4 hblk⟩, fun w h => ⟨h.1, h.2.1, ⟨_, _, _, _, h.2.2⟩⟩, ?_⟩
                · have b0 := hblk.cell 0
                  have b1 := hblk.cell 1
                  have b2 := hblk.cell 2
                  have b3 := hblk.cell 3
                  simp at b0 b1 b2 b3
                  have frb := hblk.free
                  have ltb := hblk.lt
                  go_simp
                clear hSc hblk
                (try simp only [Act.put, List.setIfInBounds_toArray, List.set_cons_zero, List.set_cons_succ])
                (first | (refine Held.skip (i := 12) rfl (by kernel_rfl) (fun _ _ _ h => h) rfl ?_; (try (try simp only [Act.put, List.setIfInBounds_toArray, List.set_cons_zero, List.set_cons_succ]))) | (refine Held.take (i := 12) (v := ?_) rfl (by kernel_rfl) (fun _ _ _ h => h) rfl ?_ ?_; rotate_left; (intro w hS; have hE := hS.1; have hy := HN.out.after hE; have y0 := hy.cell 0; have y1 := hy.cell 1; have y2 := hy.cell 2; have y3 := hy.cell 3; simp at y0 y1 y2 y3; go_simp; with_reducible rfl); (try (try simp only [Act.put, List.setIfInBounds_toArray, List.set_cons_zero, List.set_cons_succ]))))
                refine Held.done (by kernel_rfl) ?_
                intro wz hz
                have hne : g8 ≠ g9 := by omega
                go_wp2_with fail
                go_meet
                exact ⟨g8, g9, rfl, rfl, hg8, hz.1, hz.2.1, hz.2.2⟩
    · refine HeldOp.step (i := 8) rfl rfl ?_
      intro wcx hSc
      have hg8 : w6.heap.size ≤ wcx.heap.size := Below.size (hSc)
      refine ⟨.pointer (some ⟨wcx.heap.size, 0, none⟩), wcx.alloc (.cells #[.int .u64 0, .int .u64 0, .int .u64 0, .int .u64 0] 25), .inl (by go_simp), (fun w' => Ext w6 w' ∧ Four w' wcx.heap.size), ⟨Below.alloc (hSc) (Below.size (hSc)) _, ⟨_, _, _, _, IsBlk.new _ _ _⟩⟩, fun w h => h.1, ?_⟩
      generalize wcx.heap.size = g8 at *
      clear hSc
      (try simp only [Act.put, List.setIfInBounds_toArray, List.set_cons_zero, List.set_cons_succ])
      refine Held.two (i := 1) (j := 9) (by kernel_rfl) ?_ ?_
      · refine HeldOp.call (i := 1) (f := ?_) (args := ?_) rfl rfl ?_ ?_
        rotate_left 2
        · (intro w hS; go_simp; (first | with_reducible rfl | (refine ⟨?_, ?_⟩ <;> with_reducible rfl)))
        intro wcx hSc
        (with_reducible refine (K3.out _).mono ?_)
        rintro e vc ⟨rfl, hb⟩
        refine ⟨_, rfl, (fun w' => Ext w6 w' ∧ Four w' g8), ⟨bel_on hSc.1 hb, hSc.2.on hb⟩, fun w h => h, ?_⟩
        clear hSc hb
        (try simp only [Act.put, List.setIfInBounds_toArray, List.set_cons_zero, List.set_cons_succ])
        refine Held.two (i := 3) (j := 9) (by kernel_rfl) ?_ ?_
        · refine HeldOp.call (i := 3) (f := ?_) (args := ?_) rfl rfl ?_ ?_
          rotate_left 2
          · (intro w hS; go_simp; (first | with_reducible rfl | (refine ⟨?_, ?_⟩ <;> with_reducible rfl)))
          intro wcx hSc
          (with_reducible refine (K4.out _).mono ?_)
          rintro e vc ⟨rfl, hb⟩
          refine ⟨_, rfl, (fun w' => Ext w6 w' ∧ Four w' g8), ⟨bel_on hSc.1 hb, hSc.2.on hb⟩, fun w h => h, ?_⟩
          clear hSc hb
          (try simp only [Act.put, List.setIfInBounds_toArray, List.set_cons_zero, List.set_cons_succ])
          (first | (refine Held.skip (i := 4) rfl (by kernel_rfl) (fun _ _ _ h => h) rfl ?_; (try (try simp only [Act.put, List.setIfInBounds_toArray, List.set_cons_zero, List.set_cons_succ]))) | (refine Held.take (i := 4) (v := ?_) rfl (by kernel_rfl) (fun _ _ _ h => h) rfl ?_ ?_; rotate_left; (intro w hS; have hE := hS.1; have hy := HN.out.after hE; have y0 := hy.cell 0; have y1 := hy.cell 1; have y2 := hy.cell 2; have y3 := hy.cell 3; simp at y0 y1 y2 y3; go_simp; with_reducible rfl); (try (try simp only [Act.put, List.setIfInBounds_toArray, List.set_cons_zero, List.set_cons_succ]))))
          (first | (refine Held.skip (i := 5) rfl (by kernel_rfl) (fun _ _ _ h => h) rfl ?_; (try (try simp only [Act.put, List.setIfInBounds_toArray, List.set_cons_zero, List.set_cons_succ]))) | (refine Held.take (i := 5) (v := ?_) rfl (by kernel_rfl) (fun _ _ _ h => h) rfl ?_ ?_; rotate_left; (intro w hS; have hE := hS.1; have hy := HN.out.after hE; have y0 := hy.cell 0; have y1 := hy.cell 1; have y2 := hy.cell 2; have y3 := hy.cell 3; simp at y0 y1 y2 y3; go_simp; with_reducible rfl); (try (try simp only [Act.put, List.setIfInBounds_toArray, List.set_cons_zero, List.set_cons_succ]))))
          (first | (refine Held.skip (i := 6) rfl (by kernel_rfl) (fun _ _ _ h => h) rfl ?_; (try (try simp only [Act.put, List.setIfInBounds_toArray, List.set_cons_zero, List.set_cons_succ]))) | (refine Held.take (i := 6) (v := ?_) rfl (by kernel_rfl) (fun _ _ _ h => h) rfl ?_ ?_; rotate_left; (intro w hS; have hE := hS.1; have hy := HN.out.after hE; have y0 := hy.cell 0; have y1 := hy.cell 1; have y2 := hy.cell 2; have y3 := hy.cell 3; simp at y0 y1 y2 y3; go_simp; with_reducible rfl); (try (try simp only [Act.put, List.setIfInBounds_toArray, List.set_cons_zero, List.set_cons_succ]))))
          (first | (refine Held.skip (i := 7) rfl (by kernel_rfl) (fun _ _ _ h => h) rfl ?_; (try (try simp only [Act.put, List.setIfInBounds_toArray, List.set_cons_zero, List.set_cons_succ]))) | (refine Held.take (i := 7) (v := ?_) rfl (by kernel_rfl) (fun _ _ _ h => h) rfl ?_ ?_; rotate_left; (intro w hS; have hE := hS.1; have hy := HN.out.after hE; have y0 := hy.cell 0; have y1 := hy.cell 1; have y2 := hy.cell 2; have y3 := hy.cell 3; simp at y0 y1 y2 y3; go_simp; with_reducible rfl); (try (try simp only [Act.put, List.setIfInBounds_toArray, List.set_cons_zero, List.set_cons_succ]))))
          refine Held.one (i := 9) (by kernel_rfl) ?_
          · refine HeldOp.step (i := 9) rfl rfl ?_
            intro wcx hSc
            have hg9 : w6.heap.size ≤ wcx.heap.size := Below.size (hSc.1)
            have hn9 : g8 < wcx.heap.size := Four.lt (hSc.2)
            refine ⟨.pointer (some ⟨wcx.heap.size, 0, none⟩), wcx.alloc (.cells #[.int .u64 0, .int .u64 0, .int .u64 0, .int .u64 0] 25), .inl (by go_simp), (fun w' => Ext w6 w' ∧ Four w' g8 ∧ Four w' wcx.heap.size), ⟨Below.alloc (hSc.1) (Below.size (hSc.1)) _, Four.alloc (hSc.2) _, ⟨_, _, _, _, IsBlk.new _ _ _⟩⟩, fun w h => ⟨h.1, h.2.1⟩, ?_⟩
            generalize wcx.heap.size = g9 at *
            clear hSc
            (try simp only [Act.put, List.setIfInBounds_toArray, List.set_cons_zero, List.set_cons_succ])
            refine Held.one (i := 10) (by kernel_rfl) ?_
            · refine HeldOp.step (i := 10) rfl rfl ?_
              intro wcx hSc
              obtain ⟨c0, c1, c2, c3, hblk⟩ := hSc.2.1
              refine ⟨undef, ((((wcx.setCell ⟨g8, 0, none⟩ (.int .u64 (wd q 0 : Nat))).setCell ⟨g8, 1, none⟩ (.int .u64 (wd q 1 : Nat))).setCell ⟨g8, 2, none⟩ (.int .u64 (wd q 2 : Nat))).setCell ⟨g8, 3, none⟩ (.int .u64 (wd q 3 : Nat))), .inr ⟨?_, rfl⟩, (fun w' => Ext w6 w' ∧ IsBlk w' g8 25 #[.int .u64 (wd q 0 : Nat), .int .u64 (wd q 1 : Nat), .int .u64 (wd q 2 : Nat), .int .u64 (wd q 3 : Nat)] ∧ Four w' g9), ⟨bel4 hSc.1 hg8, stored4 hblk, Four.far4 (hSc.2.2) (by omega)⟩, fun w h => ⟨h.1, ⟨_, _, _, _, h.2.1⟩, h.2.2⟩, ?_⟩
              · have b0 := hblk.cell 0
                have b1 := hblk.cell 1
                have b2 := hblk.cell 2
                have b3 := hblk.cell 3
                simp at b0 b1 b2 b3
                have frb := hblk.free
                have ltb := hblk.lt
                go_simp
              clear hSc hblk
              (try simp only [Act.put, List.setIfInBounds_toArray, List.set_cons_zero, List.set_cons_succ])
              refine Held.one (i := 11) (by kernel_rfl) ?_
              · refine HeldOp.step (i := 11) rfl rfl ?_
                intro wcx hSc
                obtain ⟨c0, c1, c2, c3, hblk⟩ := hSc.2.2
                refine ⟨undef, ((((wcx.setCell ⟨g9, 0, none⟩ (.int .u64 (wd r 0 : Nat))).setCell ⟨g9, 1, none⟩ (.int .u64 (wd r 1 : Nat))).setCell ⟨g9, 2, none⟩ (.int .u64 (wd r 2 : Nat))).setCell ⟨g9, 3, none⟩ (.int .u64 (wd r 3 : Nat))), .inr ⟨?_, rfl⟩, (fun w' => Ext w6 w' ∧ IsBlk w' g8 25 #[.int .u64 (wd q 0 : Nat), .int .u64 (wd q 1 : Nat), .int .u64 (wd q 2 : Nat), .int .u64 (wd q 3 : Nat)] ∧ IsBlk w' g9 25 #[.int .u64 (wd r 0 : Nat), .int .u64 (wd r 1 : Nat), .int .u64 (wd r 2 : Nat), .int .u64 (wd r 3 : Nat)]), ⟨bel4 hSc.1 hg9, far4 (hSc.2.1) (by omega), stored4 hblk⟩, fun w h => ⟨h.1, h.2.1, ⟨_, _, _, _, h.2.2⟩⟩, ?_⟩
                · have b0 := hblk.cell 0
                  have b1 := hblk.cell 1
                  have b2 := hblk.cell 2
                  have b3 := hblk.cell 3
                  simp at b0 b1 b2 b3
                  have frb := hblk.free
                  have ltb := hblk.lt
                  go_simp
                clear hSc hblk
                (try simp only [Act.put, List.setIfInBounds_toArray, List.set_cons_zero, List.set_cons_succ])
                (first | (refine Held.skip (i := 12) rfl (by kernel_rfl) (fun _ _ _ h => h) rfl ?_; (try (try simp only [Act.put, List.setIfInBounds_toArray, List.set_cons_zero, List.set_cons_succ]))) | (refine Held.take (i := 12) (v := ?_) rfl (by kernel_rfl) (fun _ _ _ h => h) rfl ?_ ?_; rotate_left; (intro w hS; have hE := hS.1; have hy := HN.out.after hE; have y0 := hy.cell 0; have y1 := hy.cell 1; have y2 := hy.cell 2; have y3 := hy.cell 3; simp at y0 y1 y2 y3; go_simp; with_reducible rfl); (try (try simp only [Act.put, List.setIfInBounds_toArray, List.set_cons_zero, List.set_cons_succ]))))
                refine Held.done (by kernel_rfl) ?_
                intro wz hz
                have hne : g8 ≠ g9 := by omega
                go_wp2_with fail
                go_meet
                exact ⟨g8, g9, rfl, rfl, hg8, hz.1, hz.2.1, hz.2.2⟩
        · refine HeldOp.step (i := 9) rfl rfl ?_
          intro wcx hSc
          have hg9 : w6.heap.size ≤ wcx.heap.size := Below.size (hSc.1)
          have hn9 : g8 < wcx.heap.size := Four.lt (hSc.2)
          refine ⟨.pointer (some ⟨wcx.heap.size, 0, none⟩), wcx.alloc (.cells #[.int .u64 0, .int .u64 0, .int .u64 0, .int .u64 0] 25), .inl (by go_simp), (fun w' => Ext w6 w' ∧ Four w' g8 ∧ Four w' wcx.heap.size), ⟨Below.alloc (hSc.1) (Below.size (hSc.1)) _, Four.alloc (hSc.2) _, ⟨_, _, _, _, IsBlk.new _ _ _⟩⟩, fun w h => ⟨h.1, h.2.1⟩, ?_⟩
          generalize wcx.heap.size = g9 at *
          clear hSc
          (try simp only [Act.put, List.setIfInBounds_toArray, List.set_cons_zero, List.set_cons_succ])
          refine Held.one (i := 3) (by kernel_rfl) ?_
          · refine HeldOp.call (i := 3) (f := ?_) (args := ?_) rfl rfl ?_ ?_
            rotate_left 2
            · (intro w hS; go_simp; (first | with_reducible rfl | (refine ⟨?_, ?_⟩ <;> with_reducible rfl)))
            intro wcx hSc
            (with_reducible refine (K4.out _).mono ?_)
            rintro e vc ⟨rfl, hb⟩
            refine ⟨_, rfl, (fun w' => Ext w6 w' ∧ Four w' g8 ∧ Four w' g9), ⟨bel_on hSc.1 hb, hSc.2.1.on hb, hSc.2.2.on hb⟩, fun w h => h, ?_⟩
            clear hSc hb
            (try simp only [Act.put, List.setIfInBounds_toArray, List.set_cons_zero, List.set_cons_succ])
            (first | (refine Held.skip (i := 4) rfl (by kernel_rfl) (fun _ _ _ h => h) rfl ?_; (try (try simp only [Act.put, List.setIfInBounds_toArray, List.set_cons_zero, List.set_cons_succ]))) | (refine Held.take (i := 4) (v := ?_) rfl (by kernel_rfl) (fun _ _ _ h => h) rfl ?_ ?_; rotate_left; (intro w hS; have hE := hS.1; have hy := HN.out.after hE; have y0 := hy.cell 0; have y1 := hy.cell 1; have y2 := hy.cell 2; have y3 := hy.cell 3; simp at y0 y1 y2 y3; go_simp; with_reducible rfl); (try (try simp only [Act.put, List.setIfInBounds_toArray, List.set_cons_zero, List.set_cons_succ]))))
            (first | (refine Held.skip (i := 5) rfl (by kernel_rfl) (fun _ _ _ h => h) rfl ?_; (try (try simp only [Act.put, List.setIfInBounds_toArray, List.set_cons_zero, List.set_cons_succ]))) | (refine Held.take (i := 5) (v := ?_) rfl (by kernel_rfl) (fun _ _ _ h => h) rfl ?_ ?_; rotate_left; (intro w hS; have hE := hS.1; have hy := HN.out.after hE; have y0 := hy.cell 0; have y1 := hy.cell 1; have y2 := hy.cell 2; have y3 := hy.cell 3; simp at y0 y1 y2 y3; go_simp; with_reducible rfl); (try (try simp only [Act.put, List.setIfInBounds_toArray, List.set_cons_zero, List.set_cons_succ]))))
            (first | (refine Held.skip (i := 6) rfl (by kernel_rfl) (fun _ _ _ h => h) rfl ?_; (try (try simp only [Act.put, List.setIfInBounds_toArray, List.set_cons_zero, List.set_cons_succ]))) | (refine Held.take (i := 6) (v := ?_) rfl (by kernel_rfl) (fun _ _ _ h => h) rfl ?_ ?_; rotate_left; (intro w hS; have hE := hS.1; have hy := HN.out.after hE; have y0 := hy.cell 0; have y1 := hy.cell 1; have y2 := hy.cell 2; have y3 := hy.cell 3; simp at y0 y1 y2 y3; go_simp; with_reducible rfl); (try (try simp only [Act.put, List.setIfInBounds_toArray, List.set_cons_zero, List.set_cons_succ]))))
            (first | (refine Held.skip (i := 7) rfl (by kernel_rfl) (fun _ _ _ h => h) rfl ?_; (try (try simp only [Act.put, List.setIfInBounds_toArray, List.set_cons_zero, List.set_cons_succ]))) | (refine Held.take (i := 7) (v := ?_) rfl (by kernel_rfl) (fun _ _ _ h => h) rfl ?_ ?_; rotate_left; (intro w hS; have hE := hS.1; have hy := HN.out.after hE; have y0 := hy.cell 0; have y1 := hy.cell 1; have y2 := hy.cell 2; have y3 := hy.cell 3; simp at y0 y1 y2 y3; go_simp; with_reducible rfl); (try (try simp only [Act.put, List.setIfInBounds_toArray, List.set_cons_zero, List.set_cons_succ]))))
            refine Held.one (i := 10) (by kernel_rfl) ?_
            · refine HeldOp.step (i := 10) rfl rfl ?_
              intro wcx hSc
              obtain ⟨c0, c1, c2, c3, hblk⟩ := hSc.2.1
              refine ⟨undef, ((((wcx.setCell ⟨g8, 0, none⟩ (.int .u64 (wd q 0 : Nat))).setCell ⟨g8, 1, none⟩ (.int .u64 (wd q 1 : Nat))).setCell ⟨g8, 2, none⟩ (.int .u64 (wd q 2 : Nat))).setCell ⟨g8, 3, none⟩ (.int .u64 (wd q 3 : Nat))), .inr ⟨?_, rfl⟩, (fun w' => Ext w6 w' ∧ IsBlk w' g8 25 #[.int .u64 (wd q 0 : Nat), .int .u64 (wd q 1 : Nat), .int .u64 (wd q 2 : Nat), .int .u64 (wd q 3 : Nat)] ∧ Four w' g9), ⟨bel4 hSc.1 hg8, stored4 hblk, Four.far4 (hSc.2.2) (by omega)⟩, fun w h => ⟨h.1, ⟨_, _, _, _, h.2.1⟩, h.2.2⟩, ?_⟩
              · have b0 := hblk.cell 0
                have b1 := hblk.cell 1
                have b2 := hblk.cell 2
                have b3 := hblk.cell 3
                simp at b0 b1 b2 b3
                have frb := hblk.free
                have ltb := hblk.lt
                go_simp
              clear hSc hblk
              (try simp only [Act.put, List.setIfInBounds_toArray, List.set_cons_zero, List.set_cons_succ])
              refine Held.one (i := 11) (by kernel_rfl) ?_
              · refine HeldOp.step (i := 11) rfl rfl ?_
                intro wcx hSc
                obtain ⟨c0, c1, c2, c3, hblk⟩ := hSc.2.2
                refine ⟨undef, ((((wcx.setCell ⟨g9, 0, none⟩ (.int .u64 (wd r 0 : Nat))).setCell ⟨g9, 1, none⟩ (.int .u64 (wd r 1 : Nat))).setCell ⟨g9, 2, none⟩ (.int .u64 (wd r 2 : Nat))).setCell ⟨g9, 3, none⟩ (.int .u64 (wd r 3 : Nat))), .inr ⟨?_, rfl⟩, (fun w' => Ext w6 w' ∧ IsBlk w' g8 25 #[.int .u64 (wd q 0 : Nat), .int .u64 (wd q 1 : Nat), .int .u64 (wd q 2 : Nat), .int .u64 (wd q 3 : Nat)] ∧ IsBlk w' g9 25 #[.int .u64 (wd r 0 : Nat), .int .u64 (wd r 1 : Nat), .int .u64 (wd r 2 : Nat), .int .u64 (wd r 3 : Nat)]), ⟨bel4 hSc.1 hg9, far4 (hSc.2.1) (by omega), stored4 hblk⟩, fun w h => ⟨h.1, h.2.1, ⟨_, _, _, _, h.2.2⟩⟩, ?_⟩
                · have b0 := hblk.cell 0
                  have b1 := hblk.cell 1
                  have b2 := hblk.cell 2
                  have b3 := hblk.cell 3
                  simp at b0 b1 b2 b3
                  have frb := hblk.free
                  have ltb := hblk.lt
                  go_simp
                clear hSc hblk
                (try simp only [Act.put, List.setIfInBounds_toArray, List.set_cons_zero, List.set_cons_succ])
                (first | (refine Held.skip (i := 12) rfl (by kernel_rfl) (fun _ _ _ h => h) rfl ?_; (try (try simp only [Act.put, List.setIfInBounds_toArray, List.set_cons_zero, List.set_cons_succ]))) | (refine Held.take (i := 12) (v := ?_) rfl (by kernel_rfl) (fun _ _ _ h => h) rfl ?_ ?_; rotate_left; (intro w hS; have hE := hS.1; have hy := HN.out.after hE; have y0 := hy.cell 0; have y1 := hy.cell 1; have y2 := hy.cell 2; have y3 := hy.cell 3; simp at y0 y1 y2 y3; go_simp; with_reducible rfl); (try (try simp only [Act.put, List.setIfInBounds_toArray, List.set_cons_zero, List.set_cons_succ]))))
                refine Held.done (by kernel_rfl) ?_
                intro wz hz
                have hne : g8 ≠ g9 := by omega
                go_wp2_with fail
                go_meet
                exact ⟨g8, g9, rfl, rfl, hg8, hz.1, hz.2.1, hz.2.2⟩
      · refine HeldOp.step (i := 9) rfl rfl ?_
        intro wcx hSc
        have hg9 : w6.heap.size ≤ wcx.heap.size := Below.size (hSc.1)
        have hn9 : g8 < wcx.heap.size := Four.lt (hSc.2)
        refine ⟨.pointer (some ⟨wcx.heap.size, 0, none⟩), wcx.alloc (.cells #[.int .u64 0, .int .u64 0, .int .u64 0, .int .u64 0] 25), .inl (by go_simp), (fun w' => Ext w6 w' ∧ Four w' g8 ∧ Four w' wcx.heap.size), ⟨Below.alloc (hSc.1) (Below.size (hSc.1)) _, Four.alloc (hSc.2) _, ⟨_, _, _, _, IsBlk.new _ _ _⟩⟩, fun w h => ⟨h.1, h.2.1⟩, ?_⟩
        generalize wcx.heap.size = g9 at *
        clear hSc
        (try simp only [Act.put, List.setIfInBounds_toArray, List.set_cons_zero, List.set_cons_succ])
        refine Held.one (i := 1) (by kernel_rfl) ?_
        · refine HeldOp.call (i := 1) (f := ?_) (args := ?_) rfl rfl ?_ ?_
          rotate_left 2
          · (intro w hS; go_simp; (first | with_reducible rfl | (refine ⟨?_, ?_⟩ <;> with_reducible rfl)))
          intro wcx hSc
          (with_reducible refine (K3.out _).mono ?_)
          rintro e vc ⟨rfl, hb⟩
          refine ⟨_, rfl, (fun w' => Ext w6 w' ∧ Four w' g8 ∧ Four w' g9), ⟨bel_on hSc.1 hb, hSc.2.1.on hb, hSc.2.2.on hb⟩, fun w h => h, ?_⟩
          clear hSc hb
          (try simp only [Act.put, List.setIfInBounds_toArray, List.set_cons_zero, List.set_cons_succ])
          refine Held.one (i := 3) (by kernel_rfl) ?_
          · refine HeldOp.call (i := 3) (f := ?_) (args := ?_) rfl rfl ?_ ?_
            rotate_left 2
            · (intro w hS; go_simp; (first | with_reducible rfl | (refine ⟨?_, ?_⟩ <;> with_reducible rfl)))
            intro wcx hSc
            (with_reducible refine (K4.out _).mono ?_)
            rintro e vc ⟨rfl, hb⟩
            refine ⟨_, rfl, (fun w' => Ext w6 w' ∧ Four w' g8 ∧ Four w' g9), ⟨bel_on hSc.1 hb, hSc.2.1.on hb, hSc.2.2.on hb⟩, fun w h => h, ?_⟩
            clear hSc hb
            (try simp only [Act.put, List.setIfInBounds_toArray, List.set_cons_zero, List.set_cons_succ])
            (first | (refine Held.skip (i := 4) rfl (by kernel_rfl) (fun _ _ _ h => h) rfl ?_; (try (try simp only [Act.put, List.setIfInBounds_toArray, List.set_cons_zero, List.set_cons_succ]))) | (refine Held.take (i := 4) (v := ?_) rfl (by kernel_rfl) (fun _ _ _ h => h) rfl ?_ ?_; rotate_left; (intro w hS; have hE := hS.1; have hy := HN.out.after hE; have y0 := hy.cell 0; have y1 := hy.cell 1; have y2 := hy.cell 2; have y3 := hy.cell 3; simp at y0 y1 y2 y3; go_simp; with_reducible rfl); (try (try simp only [Act.put, List.setIfInBounds_toArray, List.set_cons_zero, List.set_cons_succ]))))
            (first | (refine Held.skip (i := 5) rfl (by kernel_rfl) (fun _ _ _ h => h) rfl ?_; (try (try simp only [Act.put, List.setIfInBounds_toArray, List.set_cons_zero, List.set_cons_succ]))) | (refine Held.take (i := 5) (v := ?_) rfl (by kernel_rfl) (fun _ _ _ h => h) rfl ?_ ?_; rotate_left; (intro w hS; have hE := hS.1; have hy := HN.out.after hE; have y0 := hy.cell 0; have y1 := hy.cell 1; have y2 := hy.cell 2; have y3 := hy.cell 3; simp at y0 y1 y2 y3; go_simp; with_reducible rfl); (try (try simp only [Act.put, List.setIfInBounds_toArray, List.set_cons_zero, List.set_cons_succ]))))
            (first | (refine Held.skip (i := 6) rfl (by kernel_rfl) (fun _ _ _ h => h) rfl ?_; (try (try simp only [Act.put, List.setIfInBounds_toArray, List.set_cons_zero, List.set_cons_succ]))) | (refine Held.take (i := 6) (v := ?_) rfl (by kernel_rfl) (fun _ _ _ h => h) rfl ?_ ?_; rotate_left; (intro w hS; have hE := hS.1; have hy := HN.out.after hE; have y0 := hy.cell 0; have y1 := hy.cell 1; have y2 := hy.cell 2; have y3 := hy.cell 3; simp at y0 y1 y2 y3; go_simp; with_reducible rfl); (try (try simp only [Act.put, List.setIfInBounds_toArray, List.set_cons_zero, List.set_cons_succ]))))
            (first | (refine Held.skip (i := 7) rfl (by kernel_rfl) (fun _ _ _ h => h) rfl ?_; (try (try simp only [Act.put, List.setIfInBounds_toArray, List.set_cons_zero, List.set_cons_succ]))) | (refine Held.take (i := 7) (v := ?_) rfl (by kernel_rfl) (fun _ _ _ h => h) rfl ?_ ?_; rotate_left; (intro w hS; have hE := hS.1; have hy := HN.out.after hE; have y0 := hy.cell 0; have y1 := hy.cell 1; have y2 := hy.cell 2; have y3 := hy.cell 3; simp at y0 y1 y2 y3; go_simp; with_reducible rfl); (try (try simp only [Act.put, List.setIfInBounds_toArray, List.set_cons_zero, List.set_cons_succ]))))
            refine Held.one (i := 10) (by kernel_rfl) ?_
            · refine HeldOp.step (i := 10) rfl rfl ?_
              intro wcx hSc
              obtain ⟨c0, c1, c2, c3, hblk⟩ := hSc.2.1
              refine ⟨undef, ((((wcx.setCell ⟨g8, 0, none⟩ (.int .u64 (wd q 0 : Nat))).setCell ⟨g8, 1, none⟩ (.int .u64 (wd q 1 : Nat))).setCell ⟨g8, 2, none⟩ (.int .u64 (wd q 2 : Nat))).setCell ⟨g8, 3, none⟩ (.int .u64 (wd q 3 : Nat))), .inr ⟨?_, rfl⟩, (fun w' => Ext w6 w' ∧ IsBlk w' g8 25 #[.int .u64 (wd q 0 : Nat), .int .u64 (wd q 1 : Nat), .int .u64 (wd q 2 : Nat), .int .u64 (wd q 3 : Nat)] ∧ Four w' g9), ⟨bel4 hSc.1 hg8, stored4 hblk, Four.far4 (hSc.2.2) (by omega)⟩, fun w h => ⟨h.1, ⟨_, _, _, _, h.2.1⟩, h.2.2⟩, ?_⟩
              · have b0 := hblk.cell 0
                have b1 := hblk.cell 1
                have b2 := hblk.cell 2
                have b3 := hblk.cell 3
                simp at b0 b1 b2 b3
                have frb := hblk.free
                have ltb := hblk.lt
                go_simp
              clear hSc hblk
              (try simp only [Act.put, List.setIfInBounds_toArray, List.set_cons_zero, List.set_cons_succ])
              refine Held.one (i := 11) (by kernel_rfl) ?_
              · refine HeldOp.step (i := 11) rfl rfl ?_
                intro wcx hSc
                obtain ⟨c0, c1, c2, c3, hblk⟩ := hSc.2.2
                refine ⟨undef, ((((wcx.setCell ⟨g9, 0, none⟩ (.int .u64 (wd r 0 : Nat))).setCell ⟨g9, 1, none⟩ (.int .u64 (wd r 1 : Nat))).setCell ⟨g9, 2, none⟩ (.int .u64 (wd r 2 : Nat))).setCell ⟨g9, 3, none⟩ (.int .u64 (wd r 3 : Nat))), .inr ⟨?_, rfl⟩, (fun w' => Ext w6 w' ∧ IsBlk w' g8 25 #[.int .u64 (wd q 0 : Nat), .int .u64 (wd q 1 : Nat), .int .u64 (wd q 2 : Nat), .int .u64 (wd q 3 : Nat)] ∧ IsBlk w' g9 25 #[.int .u64 (wd r 0 : Nat), .int .u64 (wd r 1 : Nat), .int .u64 (wd r 2 : Nat), .int .u64 (wd r 3 : Nat)]), ⟨bel4 hSc.1 hg9, far4 (hSc.2.1) (by omega), stored4 hblk⟩, fun w h => ⟨h.1, h.2.1, ⟨_, _, _, _, h.2.2⟩⟩, ?_⟩
                · have b0 := hblk.cell 0
                  have b1 := hblk.cell 1
                  have b2 := hblk.cell 2
                  have b3 := hblk.cell 3
                  simp at b0 b1 b2 b3
                  have frb := hblk.free
                  have ltb := hblk.lt
                  go_simp
                clear hSc hblk
                (try simp only [Act.put, List.setIfInBounds_toArray, List.set_cons_zero, List.set_cons_succ])
                (first | (refine Held.skip (i := 12) rfl (by kernel_rfl) (fun _ _ _ h => h) rfl ?_; (try (try simp only [Act.put, List.setIfInBounds_toArray, List.set_cons_zero, List.set_cons_succ]))) | (refine Held.take (i := 12) (v := ?_) rfl (by kernel_rfl) (fun _ _ _ h => h) rfl ?_ ?_; rotate_left; (intro w hS; have hE := hS.1; have hy := HN.out.after hE; have y0 := hy.cell 0; have y1 := hy.cell 1; have y2 := hy.cell 2; have y3 := hy.cell 3; simp at y0 y1 y2 y3; go_simp; with_reducible rfl); (try (try simp only [Act.put, List.setIfInBounds_toArray, List.set_cons_zero, List.set_cons_succ]))))
                refine Held.done (by kernel_rfl) ?_
                intro wz hz
                have hne : g8 ≠ g9 := by omega
                go_wp2_with fail
                go_meet
                exact ⟨g8, g9, rfl, rfl, hg8, hz.1, hz.2.1, hz.2.2⟩
    · refine HeldOp.step (i := 9) rfl rfl ?_
      intro wcx hSc
      have hg9 : w6.heap.size ≤ wcx.heap.size := Below.size (hSc)
      refine ⟨.pointer (some ⟨wcx.heap.size, 0, none⟩), wcx.alloc (.cells #[.int .u64 0, .int .u64 0, .int .u64 0, .int .u64 0] 25), .inl (by go_simp), (fun w' => Ext w6 w' ∧ Four w' wcx.heap.size), ⟨Below.alloc (hSc) (Below.size (hSc)) _, ⟨_, _, _, _, IsBlk.new _ _ _⟩⟩, fun w h => h.1, ?_⟩
      generalize wcx.heap.size = g9 at *
      clear hSc
      (try simp only [Act.put, List.setIfInBounds_toArray, List.set_cons_zero, List.set_cons_succ])
      refine Held.two (i := 1) (j := 8) (by kernel_rfl) ?_ ?_
      · refine HeldOp.call (i := 1) (f := ?_) (args := ?_) rfl rfl ?_ ?_
        rotate_left 2
        · (intro w hS; go_simp; (first | with_reducible rfl | (refine ⟨?_, ?_⟩ <;> with_reducible rfl)))
        intro wcx hSc
        (with_reducible refine (K3.out _).mono ?_)
        rintro e vc ⟨rfl, hb⟩
        refine ⟨_, rfl, (fun w' => Ext w6 w' ∧ Four w' g9), ⟨bel_on hSc.1 hb, hSc.2.on hb⟩, fun w h => h, ?_⟩
        clear hSc hb
        (try simp only [Act.put, List.setIfInBounds_toArray, List.set_cons_zero, List.set_cons_succ])
        refine Held.two (i := 3) (j := 8) (by kernel_rfl) ?_ ?_
        · refine HeldOp.call (i := 3) (f := ?_) (args := ?_) rfl rfl ?_ ?_
          rotate_left 2
          · (intro w hS; go_simp; (first | with_reducible rfl | (refine ⟨?_, ?_⟩ <;> with_reducible rfl)))
          intro wcx hSc
          (with_reducible refine (K4.out _).mono ?_)
          rintro e vc ⟨rfl, hb⟩
          refine ⟨_, rfl, (fun w' => Ext w6 w' ∧ Four w' g9), ⟨bel_on hSc.1 hb, hSc.2.on hb⟩, fun w h => h, ?_⟩
          clear hSc hb
          (try simp only [Act.put, List.setIfInBounds_toArray, List.set_cons_zero, List.set_cons_succ])
          (first | (refine Held.skip (i := 4) rfl (by kernel_rfl) (fun _ _ _ h => h) rfl ?_; (try (try simp only [Act.put, List.setIfInBounds_toArray, List.set_cons_zero, List.set_cons_succ]))) | (refine Held.take (i := 4) (v := ?_) rfl (by kernel_rfl) (fun _ _ _ h => h) rfl ?_ ?_; rotate_left; (intro w hS; have hE := hS.1; have hy := HN.out.after hE; have y0 := hy.cell 0; have y1 := hy.cell 1; have y2 := hy.cell 2; have y3 := hy.cell 3; simp at y0 y1 y2 y3; go_simp; with_reducible rfl); (try (try simp only [Act.put, List.setIfInBounds_toArray, List.set_cons_zero, List.set_cons_succ]))))
          (first | (refine Held.skip (i := 5) rfl (by kernel_rfl) (fun _ _ _ h => h) rfl ?_; (try (try simp only [Act.put, List.setIfInBounds_toArray, List.set_cons_zero, List.set_cons_succ]))) | (refine Held.take (i := 5) (v := ?_) rfl (by kernel_rfl) (fun _ _ _ h => h) rfl ?_ ?_; rotate_left; (intro w hS; have hE := hS.1; have hy := HN.out.after hE; have y0 := hy.cell 0; have y1 := hy.cell 1; have y2 := hy.cell 2; have y3 := hy.cell 3; simp at y0 y1 y2 y3; go_simp; with_reducible rfl); (try (try simp only [Act.put, List.setIfInBounds_toArray, List.set_cons_zero, List.set_cons_succ]))))
          (first | (refine Held.skip (i := 6) rfl (by kernel_rfl) (fun _ _ _ h => h) rfl ?_; (try (try simp only [Act.put, List.setIfInBounds_toArray, List.set_cons_zero, List.set_cons_succ]))) | (refine Held.take (i := 6) (v := ?_) rfl (by kernel_rfl) (fun _ _ _ h => h) rfl ?_ ?_; rotate_left; (intro w hS; have hE := hS.1; have hy := HN.out.after hE; have y0 := hy.cell 0; have y1 := hy.cell 1; have y2 := hy.cell 2; have y3 := hy.cell 3; simp at y0 y1 y2 y3; go_simp; with_reducible rfl); (try (try simp only [Act.put, List.setIfInBounds_toArray, List.set_cons_zero, List.set_cons_succ]))))
          (first | (refine Held.skip (i := 7) rfl (by kernel_rfl) (fun _ _ _ h => h) rfl ?_; (try (try simp only [Act.put, List.setIfInBounds_toArray, List.set_cons_zero, List.set_cons_succ]))) | (refine Held.take (i := 7) (v := ?_) rfl (by kernel_rfl) (fun _ _ _ h => h) rfl ?_ ?_; rotate_left; (intro w hS; have hE := hS.1; have hy := HN.out.after hE; have y0 := hy.cell 0; have y1 := hy.cell 1; have y2 := hy.cell 2; have y3 := hy.cell 3; simp at y0 y1 y2 y3; go_simp; with_reducible rfl); (try (try simp only [Act.put, List.setIfInBounds_toArray, List.set_cons_zero, List.set_cons_succ]))))
          refine Held.one (i := 8) (by kernel_rfl) ?_
          · refine HeldOp.step (i := 8) rfl rfl ?_
            intro wcx hSc
            have hg8 : w6.heap.size ≤ wcx.heap.size := Below.size (hSc.1)
            have hn8 : g9 < wcx.heap.size := Four.lt (hSc.2)
            refine ⟨.pointer (some ⟨wcx.heap.size, 0, none⟩), wcx.alloc (.cells #[.int .u64 0, .int .u64 0, .int .u64 0, .int .u64 0] 25), .inl (by go_simp), (fun w' => Ext w6 w' ∧ Four w' wcx.heap.size ∧ Four w' g9), ⟨Below.alloc (hSc.1) (Below.size (hSc.1)) _, ⟨_, _, _, _, IsBlk.new _ _ _⟩, Four.alloc (hSc.2) _⟩, fun w h => ⟨h.1, h.2.2⟩, ?_⟩
            generalize wcx.heap.size = g8 at *
            clear hSc
            (try simp only [Act.put, List.setIfInBounds_toArray, List.set_cons_zero, List.set_cons_succ])
            refine Held.one (i := 10) (by kernel_rfl) ?_
            · refine HeldOp.step (i := 10) rfl rfl ?_
              intro wcx hSc
              obtain ⟨c0, c1, c2, c3, hblk⟩ := hSc.2.1
              refine ⟨undef, ((((wcx.setCell ⟨g8, 0, none⟩ (.int .u64 (wd q 0 : Nat))).setCell ⟨g8, 1, none⟩ (.int .u64 (wd q 1 : Nat))).setCell ⟨g8, 2, none⟩ (.int .u64 (wd q 2 : Nat))).setCell ⟨g8, 3, none⟩ (.int .u64 (wd q 3 : Nat))), .inr ⟨?_, rfl⟩, (fun w' => Ext w6 w' ∧ IsBlk w' g8 25 #[.int .u64 (wd q 0 : Nat), .int .u64 (wd q 1 : Nat), .int .u64 (wd q 2 : Nat), .int .u64 (wd q 3 : Nat)] ∧ Four w' g9), ⟨bel4 hSc.1 hg8, stored4 hblk, Four.far4 (hSc.2.2) (by omega)⟩, fun w h => ⟨h.1, ⟨_, _, _, _, h.2.1⟩, h.2.2⟩, ?_⟩
              · have b0 := hblk.cell 0
                have b1 := hblk.cell 1
                have b2 := hblk.cell 2
                have b3 := hblk.cell 3
                simp at b0 b1 b2 b3
                have frb := hblk.free
                have ltb := hblk.lt
                go_simp
              clear hSc hblk
              (try simp only [Act.put, List.setIfInBounds_toArray, List.set_cons_zero, List.set_cons_succ])
              refine Held.one (i := 11) (by kernel_rfl) ?_
              · refine HeldOp.step (i := 11) rfl rfl ?_
                intro wcx hSc
                obtain ⟨c0, c1, c2, c3, hblk⟩ := hSc.2.2
                refine ⟨undef, ((((wcx.setCell ⟨g9, 0, none⟩ (.int .u64 (wd r 0 : Nat))).setCell ⟨g9, 1, none⟩ (.int .u64 (wd r 1 : Nat))).setCell ⟨g9, 2, none⟩ (.int .u64 (wd r 2 : Nat))).setCell ⟨g9, 3, none⟩ (.int .u64 (wd r 3 : Nat))), .inr ⟨?_, rfl⟩, (fun w' => Ext w6 w' ∧ IsBlk w' g8 25 #[.int .u64 (wd q 0 : Nat), .int .u64 (wd q 1 : Nat), .int .u64 (wd q 2 : Nat), .int .u64 (wd q 3 : Nat)] ∧ IsBlk w' g9 25 #[.int .u64 (wd r 0 : Nat), .int .u64 (wd r 1 : Nat), .int .u64 (wd r 2 : Nat), .int .u64 (wd r 3 : Nat)]), ⟨bel4 hSc.1 hg9, far4 (hSc.2.1) (by omega), stored4 hblk⟩, fun w h => ⟨h.1, h.2.1, ⟨_, _, _, _, h.2.2⟩⟩, ?_⟩
                · have b0 := hblk.cell 0
                  have b1 := hblk.cell 1
                  have b2 := hblk.cell 2
                  have b3 := hblk.cell 3
                  simp at b0 b1 b2 b3
                  have frb := hblk.free
                  have ltb := hblk.lt
                  go_simp
                clear hSc hblk
                (try simp only [Act.put, List.setIfInBounds_toArray, List.set_cons_zero, List.set_cons_succ])
                (first | (refine Held.skip (i := 12) rfl (by kernel_rfl) (fun _ _ _ h => h) rfl ?_; (try (try simp only [Act.put, List.setIfInBounds_toArray, List.set_cons_zero, List.set_cons_succ]))) | (refine Held.take (i := 12) (v := ?_) rfl (by kernel_rfl) (fun _ _ _ h => h) rfl ?_ ?_; rotate_left; (intro w hS; have hE := hS.1; have hy := HN.out.after hE; have y0 := hy.cell 0; have y1 := hy.cell 1; have y2 := hy.cell 2; have y3 := hy.cell 3; simp at y0 y1 y2 y3; go_simp; with_reducible rfl); (try (try simp only [Act.put, List.setIfInBounds_toArray, List.set_cons_zero, List.set_cons_succ]))))
                refine Held.done (by kernel_rfl) ?_
                intro wz hz
                have hne : g8 ≠ g9 := by omega
                go_wp2_with fail
                go_meet
                exact ⟨g8, g9, rfl, rfl, hg8, hz.1, hz.2.1, hz.2.2⟩
        · refine HeldOp.step (i := 8) rfl rfl ?_
          intro wcx hSc
          have hg8 : w6.heap.size ≤ wcx.heap.size := Below.size (hSc.1)
          have hn8 : g9 < wcx.heap.size := Four.lt (hSc.2)
          refine ⟨.pointer (some ⟨wcx.heap.size, 0, none⟩), wcx.alloc (.cells #[.int .u64 0, .int .u64 0, .int .u64 0, .int .u64 0] 25), .inl (by go_simp), (fun w' => Ext w6 w' ∧ Four w' wcx.heap.size ∧ Four w' g9), ⟨Below.alloc (hSc.1) (Below.size (hSc.1)) _, ⟨_, _, _, _, IsBlk.new _ _ _⟩, Four.alloc (hSc.2) _⟩, fun w h => ⟨h.1, h.2.2⟩, ?_⟩
          generalize wcx.heap.size = g8 at *
          clear hSc
          (try simp only [Act.put, List.setIfInBounds_toArray, List.set_cons_zero, List.set_cons_succ])
          refine Held.one (i := 3) (by kernel_rfl) ?_
          · refine HeldOp.call (i := 3) (f := ?_) (args := ?_) rfl rfl ?_ ?_
            rotate_left 2
            · (intro w hS; go_simp; (first | with_reducible rfl | (refine ⟨?_, ?_⟩ <;> with_reducible rfl)))
            intro wcx hSc
            (with_reducible refine (K4.out _).mono ?_)
            rintro e vc ⟨rfl, hb⟩
            refine ⟨_, rfl, (fun w' => Ext w6 w' ∧ Four w' g8 ∧ Four w' g9), ⟨bel_on hSc.1 hb, hSc.2.1.on hb, hSc.2.2.on hb⟩, fun w h => h, ?_⟩
            clear hSc hb
            (try simp only [Act.put, List.setIfInBounds_toArray, List.set_cons_zero, List.set_cons_succ])
            (first | (refine Held.skip (i := 4) rfl (by kernel_rfl) (fun _ _ _ h => h) rfl ?_; (try (try simp only [Act.put, List.setIfInBounds_toArray, List.set_cons_zero, List.set_cons_succ]))) | (refine Held.take (i := 4) (v := ?_) rfl (by kernel_rfl) (fun _ _ _ h => h) rfl ?_ ?_; rotate_left; (intro w hS; have hE := hS.1; have hy := HN.out.after hE; have y0 := hy.cell 0; have y1 := hy.cell 1; have y2 := hy.cell 2; have y3 := hy.cell 3; simp at y0 y1 y2 y3; go_simp; with_reducible rfl); (try (try simp only [Act.put, List.setIfInBounds_toArray, List.set_cons_zero, List.set_cons_succ]))))
            (first | (refine Held.skip (i := 5) rfl (by kernel_rfl) (fun _ _ _ h => h) rfl ?_; (try (try simp only [Act.put, List.setIfInBounds_toArray, List.set_cons_zero, List.set_cons_succ]))) | (refine Held.take (i := 5) (v := ?_) rfl (by kernel_rfl) (fun _ _ _ h => h) rfl ?_ ?_; rotate_left; (intro w hS; have hE := hS.1; have hy := HN.out.after hE; have y0 := hy.cell 0; have y1 := hy.cell 1; have y2 := hy.cell 2; have y3 := hy.cell 3; simp at y0 y1 y2 y3; go_simp; with_reducible rfl); (try (try simp only [Act.put, List.setIfInBounds_toArray, List.set_cons_zero, List.set_cons_succ]))))
            (first | (refine Held.skip (i := 6) rfl (by kernel_rfl) (fun _ _ _ h => h) rfl ?_; (try (try simp only [Act.put, List.setIfInBounds_toArray, List.set_cons_zero, List.set_cons_succ]))) | (refine Held.take (i := 6) (v := ?_) rfl (by kernel_rfl) (fun _ _ _ h => h) rfl ?_ ?_; rotate_left; (intro w hS; have hE := hS.1; have hy := HN.out.after hE; have y0 := hy.cell 0; have y1 := hy.cell 1; have y2 := hy.cell 2; have y3 := hy.cell 3; simp at y0 y1 y2 y3; go_simp; with_reducible rfl); (try (try simp only [Act.put, List.setIfInBounds_toArray, List.set_cons_zero, List.set_cons_succ]))))
            (first | (refine Held.skip (i := 7) rfl (by kernel_rfl) (fun _ _ _ h => h) rfl ?_; (try (try simp only [Act.put, List.setIfInBounds_toArray, List.set_cons_zero, List.set_cons_succ]))) | (refine Held.take (i := 7) (v := ?_) rfl (by kernel_rfl) (fun _ _ _ h => h) rfl ?_ ?_; rotate_left; (intro w hS; have hE := hS.1; have hy := HN.out.after hE; have y0 := hy.cell 0; have y1 := hy.cell 1; have y2 := hy.cell 2; have y3 := hy.cell 3; simp at y0 y1 y2 y3; go_simp; with_reducible rfl); (try (try simp only [Act.put, List.setIfInBounds_toArray, List.set_cons_zero, List.set_cons_succ]))))
            refine Held.one (i := 10) (by kernel_rfl) ?_
            · refine HeldOp.step (i := 10) rfl rfl ?_
              intro wcx hSc
              obtain ⟨c0, c1, c2, c3, hblk⟩ := hSc.2.1
              refine ⟨undef, ((((wcx.setCell ⟨g8, 0, none⟩ (.int .u64 (wd q 0 : Nat))).setCell ⟨g8, 1, none⟩ (.int .u64 (wd q 1 : Nat))).setCell ⟨g8, 2, none⟩ (.int .u64 (wd q 2 : Nat))).setCell ⟨g8, 3, none⟩ (.int .u64 (wd q 3 : Nat))), .inr ⟨?_, rfl⟩, (fun w' => Ext w6 w' ∧ IsBlk w' g8 25 #[.int .u64 (wd q 0 : Nat), .int .u64 (wd q 1 : Nat), .int .u64 (wd q 2 : Nat), .int .u64 (wd q 3 : Nat)] ∧ Four w' g9), ⟨bel4 hSc.1 hg8, stored4 hblk, Four.far4 (hSc.2.2) (by omega)⟩, fun w h => ⟨h.1, ⟨_, _, _, _, h.2.1⟩, h.2.2⟩, ?_⟩
              · have b0 := hblk.cell 0
                have b1 := hblk.cell 1
                have b2 := hblk.cell 2
                have b3 := hblk.cell 3
                simp at b0 b1 b2 b3
                have frb := hblk.free
                have ltb := hblk.lt
                go_simp
              clear hSc hblk
              (try simp only [Act.put, List.setIfInBounds_toArray, List.set_cons_zero, List.set_cons_succ])
              refine Held.one (i := 11) (by kernel_rfl) ?_
              · refine HeldOp.step (i := 11) rfl rfl ?_
                intro wcx hSc
                obtain ⟨c0, c1, c2, c3, hblk⟩ := hSc.2.2
                refine ⟨undef, ((((wcx.setCell ⟨g9, 0, none⟩ (.int .u64 (wd r 0 : Nat))).setCell ⟨g9, 1, none⟩ (.int .u64 (wd r 1 : Nat))).setCell ⟨g9, 2, none⟩ (.int .u64 (wd r 2 : Nat))).setCell ⟨g9, 3, none⟩ (.int .u64 (wd r 3 : Nat))), .inr ⟨?_, rfl⟩, (fun w' => Ext w6 w' ∧ IsBlk w' g8 25 #[.int .u64 (wd q 0 : Nat), .int .u64 (wd q 1 : Nat), .int .u64 (wd q 2 : Nat), .int .u64 (wd q 3 : Nat)] ∧ IsBlk w' g9 25 #[.int .u64 (wd r 0 : Nat), .int .u64 (wd r 1 : Nat), .int .u64 (wd r 2 : Nat), .int .u64 (wd r 3 : Nat)]), ⟨bel4 hSc.1 hg9, far4 (hSc.2.1) (by omega), stored4 hblk⟩, fun w h => ⟨h.1, h.2.1, ⟨_, _, _, _, h.2.2⟩⟩, ?_⟩
                · have b0 := hblk.cell 0
                  have b1 := hblk.cell 1
                  have b2 := hblk.cell 2
                  have b3 := hblk.cell 3
                  simp at b0 b1 b2 b3
                  have frb := hblk.free
                  have ltb := hblk.lt
                  go_simp
                clear hSc hblk
                (try simp only [Act.put, List.setIfInBounds_toArray, List.set_cons_zero, List.set_cons_succ])
                (first | (refine Held.skip (i := 12) rfl (by kernel_rfl) (fun _ _ _ h => h) rfl ?_; (try (try simp only [Act.put, List.setIfInBounds_toArray, List.set_cons_zero, List.set_cons_succ]))) | (refine Held.take (i := 12) (v := ?_) rfl (by kernel_rfl) (fun _ _ _ h => h) rfl ?_ ?_; rotate_left; (intro w hS; have hE := hS.1; have hy := HN.out.after hE; have y0 := hy.cell 0; have y1 := hy.cell 1; have y2 := hy.cell 2; have y3 := hy.cell 3; simp at y0 y1 y2 y3; go_simp; with_reducible rfl); (try (try simp only [Act.put, List.setIfInBounds_toArray, List.set_cons_zero, List.set_cons_succ]))))
                refine Held.done (by kernel_rfl) ?_
                intro wz hz
                have hne : g8 ≠ g9 := by omega
                go_wp2_with fail
                go_meet
                exact ⟨g8, g9, rfl, rfl, hg8, hz.1, hz.2.1, hz.2.2⟩
      · refine HeldOp.step (i := 8) rfl rfl ?_
        intro wcx hSc
        have hg8 : w6.heap.size ≤ wcx.heap.size := Below.size (hSc.1)
        have hn8 : g9 < wcx.heap.size := Four.lt (hSc.2)
        refine ⟨.pointer (some ⟨wcx.heap.size, 0, none⟩), wcx.alloc (.cells #[.int .u64 0, .int .u64 0, .int .u64 0, .int .u64 0] 25), .inl (by go_simp), (fun w' => Ext w6 w' ∧ Four w' wcx.heap.size ∧ Four w' g9), ⟨Below.alloc (hSc.1) (Below.size (hSc.1)) _, ⟨_, _, _, _, IsBlk.new _ _ _⟩, Four.alloc (hSc.2) _⟩, fun w h => ⟨h.1, h.2.2⟩, ?_⟩
        generalize wcx.heap.size = g8 at *
        clear hSc
        (try simp only [Act.put, List.setIfInBounds_toArray, List.set_cons_zero, List.set_cons_succ])
        refine Held.one (i := 1) (by kernel_rfl) ?_
        · refine HeldOp.call (i := 1) (f := ?_) (args := ?_) rfl rfl ?_ ?_
          rotate_left 2
          · (intro w hS; go_simp; (first | with_reducible rfl | (refine ⟨?_, ?_⟩ <;> with_reducible rfl)))
          intro wcx hSc
          (with_reducible refine (K3.out _).mono ?_)
          rintro e vc ⟨rfl, hb⟩
          refine ⟨_, rfl, (fun w' => Ext w6 w' ∧ Four w' g8 ∧ Four w' g9), ⟨bel_on hSc.1 hb, hSc.2.1.on hb, hSc.2.2.on hb⟩, fun w h => h, ?_⟩
          clear hSc hb
          (try simp only [Act.put, List.setIfInBounds_toArray, List.set_cons_zero, List.set_cons_succ])
          refine Held.one (i := 3) (by kernel_rfl) ?_
          · refine HeldOp.call (i := 3) (f := ?_) (args := ?_) rfl rfl ?_ ?_
            rotate_left 2
            · (intro w hS; go_simp; (first | with_reducible rfl | (refine ⟨?_, ?_⟩ <;> with_reducible rfl)))
            intro wcx hSc
            (with_reducible refine (K4.out _).mono ?_)
            rintro e vc ⟨rfl, hb⟩
            refine ⟨_, rfl, (fun w' => Ext w6 w' ∧ Four w' g8 ∧ Four w' g9), ⟨bel_on hSc.1 hb, hSc.2.1.on hb, hSc.2.2.on hb⟩, fun w h => h, ?_⟩
            clear hSc hb
            (try simp only [Act.put, List.setIfInBounds_toArray, List.set_cons_zero, List.set_cons_succ])
            (first | (refine Held.skip (i := 4) rfl (by kernel_rfl) (fun _ _ _ h => h) rfl ?_; (try (try simp only [Act.put, List.setIfInBounds_toArray, List.set_cons_zero, List.set_cons_succ]))) | (refine Held.take (i := 4) (v := ?_) rfl (by kernel_rfl) (fun _ _ _ h => h) rfl ?_ ?_; rotate_left; (intro w hS; have hE := hS.1; have hy := HN.out.after hE; have y0 := hy.cell 0; have y1 := hy.cell 1; have y2 := hy.cell 2; have y3 := hy.cell 3; simp at y0 y1 y2 y3; go_simp; with_reducible rfl); (try (try simp only [Act.put, List.setIfInBounds_toArray, List.set_cons_zero, List.set_cons_succ]))))
            (first | (refine Held.skip (i := 5) rfl (by kernel_rfl) (fun _ _ _ h => h) rfl ?_; (try (try simp only [Act.put, List.setIfInBounds_toArray, List.set_cons_zero, List.set_cons_succ]))) | (refine Held.take (i := 5) (v := ?_) rfl (by kernel_rfl) (fun _ _ _ h => h) rfl ?_ ?_; rotate_left; (intro w hS; have hE := hS.1; have hy := HN.out.after hE; have y0 := hy.cell 0; have y1 := hy.cell 1; have y2 := hy.cell 2; have y3 := hy.cell 3; simp at y0 y1 y2 y3; go_simp; with_reducible rfl); (try (try simp only [Act.put, List.setIfInBounds_toArray, List.set_cons_zero, List.set_cons_succ]))))
            (first | (refine Held.skip (i := 6) rfl (by kernel_rfl) (fun _ _ _ h => h) rfl ?_; (try (try simp only [Act.put, List.setIfInBounds_toArray, List.set_cons_zero, List.set_cons_succ]))) | (refine Held.take (i := 6) (v := ?_) rfl (by kernel_rfl) (fun _ _ _ h => h) rfl ?_ ?_; rotate_left; (intro w hS; have hE := hS.1; have hy := HN.out.after hE; have y0 := hy.cell 0; have y1 := hy.cell 1; have y2 := hy.cell 2; have y3 := hy.cell 3; simp at y0 y1 y2 y3; go_simp; with_reducible rfl); (try (try simp only [Act.put, List.setIfInBounds_toArray, List.set_cons_zero, List.set_cons_succ]))))
            (first | (refine Held.skip (i := 7) rfl (by kernel_rfl) (fun _ _ _ h => h) rfl ?_; (try (try simp only [Act.put, List.setIfInBounds_toArray, List.set_cons_zero, List.set_cons_succ]))) | (refine Held.take (i := 7) (v := ?_) rfl (by kernel_rfl) (fun _ _ _ h => h) rfl ?_ ?_; rotate_left; (intro w hS; have hE := hS.1; have hy := HN.out.after hE; have y0 := hy.cell 0; have y1 := hy.cell 1; have y2 := hy.cell 2; have y3 := hy.cell 3; simp at y0 y1 y2 y3; go_simp; with_reducible rfl); (try (try simp only [Act.put, List.setIfInBounds_toArray, List.set_cons_zero, List.set_cons_succ]))))
            refine Held.one (i := 10) (by kernel_rfl) ?_
            · refine HeldOp.step (i := 10) rfl rfl ?_
              intro wcx hSc
              obtain ⟨c0, c1, c2, c3, hblk⟩ := hSc.2.1
              refine ⟨undef, ((((wcx.setCell ⟨g8, 0, none⟩ (.int .u64 (wd q 0 : Nat))).setCell ⟨g8, 1, none⟩ (.int .u64 (wd q 1 : Nat))).setCell ⟨g8, 2, none⟩ (.int .u64 (wd q 2 : Nat))).setCell ⟨g8, 3, none⟩ (.int .u64 (wd q 3 : Nat))), .inr ⟨?_, rfl⟩, (fun w' => Ext w6 w' ∧ IsBlk w' g8 25 #[.int .u64 (wd q 0 : Nat), .int .u64 (wd q 1 : Nat), .int .u64 (wd q 2 : Nat), .int .u64 (wd q 3 : Nat)] ∧ Four w' g9), ⟨bel4 hSc.1 hg8, stored4 hblk, Four.far4 (hSc.2.2) (by omega)⟩, fun w h => ⟨h.1, ⟨_, _, _, _, h.2.1⟩, h.2.2⟩, ?_⟩
              · have b0 := hblk.cell 0
                have b1 := hblk.cell 1
                have b2 := hblk.cell 2
                have b3 := hblk.cell 3
                simp at b0 b1 b2 b3
                have frb := hblk.free
                have ltb := hblk.lt
                go_simp
              clear hSc hblk
              (try simp only [Act.put, List.setIfInBounds_toArray, List.set_cons_zero, List.set_cons_succ])
              refine Held.one (i := 11) (by kernel_rfl) ?_
              · refine HeldOp.step (i := 11) rfl rfl ?_
                intro wcx hSc
                obtain ⟨c0, c1, c2, c3, hblk⟩ := hSc.2.2
                refine ⟨undef, ((((wcx.setCell ⟨g9, 0, none⟩ (.int .u64 (wd r 0 : Nat))).setCell ⟨g9, 1, none⟩ (.int .u64 (wd r 1 : Nat))).setCell ⟨g9, 2, none⟩ (.int .u64 (wd r 2 : Nat))).setCell ⟨g9, 3, none⟩ (.int .u64 (wd r 3 : Nat))), .inr ⟨?_, rfl⟩, (fun w' => Ext w6 w' ∧ IsBlk w' g8 25 #[.int .u64 (wd q 0 : Nat), .int .u64 (wd q 1 : Nat), .int .u64 (wd q 2 : Nat), .int .u64 (wd q 3 : Nat)] ∧ IsBlk w' g9 25 #[.int .u64 (wd r 0 : Nat), .int .u64 (wd r 1 : Nat), .int .u64 (wd r 2 : Nat), .int .u64 (wd r 3 : Nat)]), ⟨bel4 hSc.1 hg9, far4 (hSc.2.1) (by omega), stored4 hblk⟩, fun w h => ⟨h.1, h.2.1, ⟨_, _, _, _, h.2.2⟩⟩, ?_⟩
                · have b0 := hblk.cell 0
                  have b1 := hblk.cell 1
                  have b2 := hblk.cell 2
                  have b3 := hblk.cell 3
                  simp at b0 b1 b2 b3
                  have frb := hblk.free
                  have ltb := hblk.lt
                  go_simp
                clear hSc hblk
                (try simp only [Act.put, List.setIfInBounds_toArray, List.set_cons_zero, List.set_cons_succ])
                (first | (refine Held.skip (i := 12) rfl (by kernel_rfl) (fun _ _ _ h => h) rfl ?_; (try (try simp only [Act.put, List.setIfInBounds_toArray, List.set_cons_zero, List.set_cons_succ]))) | (refine Held.take (i := 12) (v := ?_) rfl (by kernel_rfl) (fun _ _ _ h => h) rfl ?_ ?_; rotate_left; (intro w hS; have hE := hS.1; have hy := HN.out.after hE; have y0 := hy.cell 0; have y1 := hy.cell 1; have y2 := hy.cell 2; have y3 := hy.cell 3; simp at y0 y1 y2 y3; go_simp; with_reducible rfl); (try (try simp only [Act.put, List.setIfInBounds_toArray, List.set_cons_zero, List.set_cons_succ]))))
                refine Held.done (by kernel_rfl) ?_
                intro wz hz
                have hne : g8 ≠ g9 := by omega
                go_wp2_with fail
                go_meet
                exact ⟨g8, g9, rfl, rfl, hg8, hz.1, hz.2.1, hz.2.2⟩
  case rest =>
    obtain ⟨g8, g9, rfl, rfl, hg8, hx6, h8, h9⟩ := hcut
    have HN6 := Lib.hid (HN.out.after hx6)
    have HO6 := Lib.hid (HO.out.after hx6)
    have HB6 := Lib.hid (bel_on HB.out hx6)
    have H8 := Lib.hid h8
    have x0 := h9.cell 0
    have x1 := h9.cell 1
    have x2 := h9.cell 2
    have x3 := h9.cell 3
    simp at x0 x1 x2 x3
    have frx := h9.free
    have lx := h9.lt
    clear hx6 h8 h9
    go_wp2_with fail
    refine (K5.out _).mono ?_
    rintro e7 w7 ⟨rfl, hb7⟩
    have HN7 := Lib.hid (HN6.out.after hb7)
    have HO7 := Lib.hid (HO6.out.after hb7)
    have HB7 := Lib.hid (bel_on HB6.out hb7)
    have H87 := Lib.hid (H8.out.after hb7)
    clear x0 x1 x2 x3 frx lx hb7
    have hn7 := HN7.out
    have y0 := hn7.cell 0
    have y1 := hn7.cell 1
    have y2 := hn7.cell 2
    have y3 := hn7.cell 3
    simp at y0 y1 y2 y3
    have fry := hn7.free
    have ly := hn7.lt
    clear hn7
    go_wp2_with fail
    refine (K6.out _).mono ?_
    rintro e8 w8 ⟨rfl, hb8⟩
    have HO8 := Lib.hid ((HO7.out.alloc (.cells #[.int .u64 (wd R1 0 : Nat), .int .u64 (wd R1 1 : Nat), .int .u64 (wd R1 2 : Nat), .int .u64 (wd R1 3 : Nat)] 25)).after hb8)
    have HB8 := Lib.hid (bel_on (bel_al HB7.out (.cells #[.int .u64 (wd R1 0 : Nat), .int .u64 (wd R1 1 : Nat), .int .u64 (wd R1 2 : Nat), .int .u64 (wd R1 3 : Nat)] 25)) hb8)
    have H88 := Lib.hid ((H87.out.alloc (.cells #[.int .u64 (wd R1 0 : Nat), .int .u64 (wd R1 1 : Nat), .int .u64 (wd R1 2 : Nat), .int .u64 (wd R1 3 : Nat)] 25)).after hb8)
    clear y0 y1 y2 y3 fry ly hb8
    have h88 := H88.out
    have y0 := h88.cell 0
    have y1 := h88.cell 1
    have y2 := h88.cell 2
    have y3 := h88.cell 3
    simp at y0 y1 y2 y3
    have fry := h88.free
    have ly := h88.lt
    have ho8 := HO8.out
    have z0 := ho8.cell 0
    have z1 := ho8.cell 1
    have z2 := ho8.cell 2
    have z3 := ho8.cell 3
    simp at z0 z1 z2 z3
    have frz := ho8.free
    have lz := ho8.lt
    have hne : g8 ≠ w.heap.size := by omega
    clear h88 ho8
    have hv := HV.out
    clear HV
    cases tie
    · simp only [Bool.false_eq_true, if_false] at hv
      subst hv
      go_wp2_with fail

      have zz := ((((HO8.out.put 0 (.int .u64 (wd q 0 : Nat))).put 1 (.int .u64 (wd q 1 : Nat))).put 2 (.int .u64 (wd q 2 : Nat))).put 3 (.int .u64 (wd q 3 : Nat)))
      have q0 := zz.cell 0
      have q1 := zz.cell 1
      have q2 := zz.cell 2
      have q3 := zz.cell 3
      simp at q0 q1 q2 q3
      refine bodyPost_ret (v := .agg #[.int .u64 (wd q 0 : Nat), .int .u64 (wd q 1 : Nat), .int .u64 (wd q 2 : Nat), .int .u64 (wd q 3 : Nat)]) ?_ rfl ⟨rfl, ?_⟩
      · simp [results, Try.results18, go_sem, q0, q1, q2, q3]
      · exact bel4 HB8.out (by omega)
    · simp only [if_true] at hv
      subst hv
      go_wp2_with fail
      refine (K7.out _).mono ?_
      rintro e9 w9 ⟨rfl, hb9⟩
      have HO9 := Lib.hid (HO8.out.after hb9)
      have HB9 := Lib.hid (bel_on HB8.out hb9)
      have H89 := Lib.hid (H88.out.after hb9)
      clear y0 y1 y2 y3 fry ly z0 z1 z2 z3 frz lz hb9
      have h89 := H89.out
      have y0 := h89.cell 0
      have y1 := h89.cell 1
      have y2 := h89.cell 2
      have y3 := h89.cell 3
      simp at y0 y1 y2 y3
      have fry := h89.free
      have ly := h89.lt
      have ho9 := HO9.out
      have z0 := ho9.cell 0
      have z1 := ho9.cell 1
      have z2 := ho9.cell 2
      have z3 := ho9.cell 3
      simp at z0 z1 z2 z3
      have frz := ho9.free
      have lz := ho9.lt
      clear h89 ho9
      go_wp2_with fail
      have zz := (((((far4 (g' := g8) (v0 := .int .u64 (wd F 0 : Nat)) (v1 := .int .u64 (wd F 1 : Nat)) (v2 := .int .u64 (wd F 2 : Nat)) (v3 := .int .u64 (wd F 3 : Nat)) HO9.out (by omega)).put 0 (.int .u64 (wd F 0 : Nat))).put 1 (.int .u64 (wd F 1 : Nat))).put 2 (.int .u64 (wd F 2 : Nat))).put 3 (.int .u64 (wd F 3 : Nat)))
      have q0 := zz.cell 0
      have q1 := zz.cell 1
      have q2 := zz.cell 2
      have q3 := zz.cell 3
      simp at q0 q1 q2 q3
      refine bodyPost_ret (v := .agg #[.int .u64 (wd F 0 : Nat), .int .u64 (wd F 1 : Nat), .int .u64 (wd F 2 : Nat), .int .u64 (wd F 3 : Nat)]) ?_ rfl ⟨rfl, ?_⟩
      · simp [results, Try.results18, go_sem, q0, q1, q2, q3]
      · exact bel4 (bel4 HB9.out (by omega)) (by omega)

set_option maxRecDepth 100000 in
set_option maxHeartbeats 8000000 in
theorem refWork_none (c T : Nat) (w : World)
    (K1 : Hid (∀ w, Calls Try.prog 11 #[.int .u32 c] w (BRet (.tuple #[.agg #[.int .u64 (wd T 0 : Nat), .int .u64 (wd T 1 : Nat), .int .u64 (wd T 2 : Nat), .int .u64 (wd T 3 : Nat)], .int .i64 11]) w))) :
    Calls Try.prog 18 #[.int .u32 c] w (BRet (.agg #[.int .u64 0, .int .u64 0, .int .u64 0, .int .u64 0]) w) := by
  go_enter Try.func18, Try.ntmps18
  go_wp2_with fail
  refine (K1.out _).mono ?_
  rintro e w1 ⟨rfl, hb1⟩
  have Ho1 := Lib.hid ((show IsBlk _ (w.heap.size) 25 #[.int .u64 0, .int .u64 0, .int .u64 0, .int .u64 0] from (IsBlk.newAt _ _ rfl)).after hb1)
  have HB1 := Lib.hid ((show Below w.heap.size w _ from by repeat' (first | exact Below.refl _ _ | refine bel_drewN ?_ _ | refine Below.drew ?_ | refine Below.alloc ?_ ?_ _ | refine Below.setCell ?_ ?_ _ | exact Nat.le_refl _ | (simp; done) | (simp; omega) | assumption)).trans (hb1.mono (by simp <;> omega)))
  clear hb1
  have ho := Ho1.out
  have vo0 := ho.cell 0
  have vo1 := ho.cell 1
  have vo2 := ho.cell 2
  have vo3 := ho.cell 3
  simp at vo0 vo1 vo2 vo3
  have frvo := ho.free
  have lvo := ho.lt
  clear ho
  go_wp2_with fail
  have z := (((((Ho1.out.put 0 (.int .u64 0)).put 1 (.int .u64 0)).put 2 (.int .u64 0)).put 3 (.int .u64 0)).alloc (.cells #[.int .u64 (wd T 0 : Nat), .int .u64 (wd T 1 : Nat), .int .u64 (wd T 2 : Nat), .int .u64 (wd T 3 : Nat)] 25))
  have z0 := z.cell 0
  have z1 := z.cell 1
  have z2 := z.cell 2
  have z3 := z.cell 3
  simp at z0 z1 z2 z3
  refine bodyPost_ret (v := .agg #[.int .u64 0, .int .u64 0, .int .u64 0, .int .u64 0]) ?_ rfl ⟨rfl, ?_⟩
  · simp [results, Try.results18, go_sem, z0, z1, z2, z3]
  · exact (bel_al (bel4 HB1.out (by first | omega | (simp; done) | (simp; omega))) _)

theorem refWork_quot {T : Nat} (h : T + 1 < w256) : (w256 - 1) % (T + 1) + 1 < w256 ∧
    ((w256 - 1) % (T + 1) + 1 = T + 1 → (w256 - 1) / (T + 1) + 1 = w256 / (T + 1)) ∧ ((w256 - 1) % (T + 1) + 1 ≠ T + 1 → (w256 - 1) / (T + 1) = w256 / (T + 1)) := by
  have h1 := Nat.mod_lt (w256 - 1) (show 0 < T + 1 by omega)
  have h2 := Nat.div_add_mod (w256 - 1) (T + 1)
  have h3 : 0 < w256 := by omega
  obtain ⟨Q, hQ⟩ : ∃ Q, (w256 - 1) / (T + 1) = Q := ⟨_, rfl⟩
  obtain ⟨R, hR⟩ : ∃ R, (w256 - 1) % (T + 1) = R := ⟨_, rfl⟩
  rewrite [hQ, hR] at h2
  rewrite [hR] at h1
  rewrite [hQ, hR]
  refine ⟨by omega, fun h4 => ?_, fun h4 => ?_⟩
  · have e : w256 = (T + 1) * (Q + 1) := by rw [Nat.mul_add]; omega
    conv => rhs; rw [e]
    rw [Nat.mul_div_cancel_left _ (by omega)]
  · have e : w256 = (R + 1) + (T + 1) * Q := by omega
    conv => rhs; rw [e]
    rw [Nat.add_mul_div_left _ _ (by omega), Nat.div_eq_of_lt (by omega), Nat.zero_add]
theorem refWork_any (c : Nat) (w : World) (hc : c < 4294967296) : Calls Try.prog 18 #[.int .u32 c] w (BRet (.agg #[.int .u64 (wd (workN c) 0 : Nat), .int .u64 (wd (workN c) 1 : Nat), .int .u64 (wd (workN c) 2 : Nat), .int .u64 (wd (workN c) 3 : Nat)]) w) := by
  have hK := fun w => refExpand_any c w hc
  have hs := xN_small c
  have hT := xN_lt c
  have l1 : (1 : Nat) < w256 := by rw [w256_eq]; decide
  have l0 : (0 : Nat) < w256 := by rw [w256_eq]; decide
  cases hb : badB c
  · have he : xE c = 0 := (xE_ok c).2 hb
    have h0 := (good_val hb).2
    have hw : workN c = w256 / (xN c + 1) := by unfold workN; rw [hb]; rfl
    rw [he] at hK
    rw [hw]
    generalize xN c = T at *
    obtain ⟨hr, ht1, ht2⟩ := refWork_quot hs
    have hq2 := (work_quot hs h0).2
    have hN : addN T 1 = T + 1 := Nat.mod_eq_of_lt hs
    have hZ : notN 0 = w256 - 1 := rfl
    have hZl := notN_lt 0
    have hR : addN (notN 0 % (T + 1)) 1 = notN 0 % (T + 1) + 1 := Nat.mod_eq_of_lt hr
    have hql : notN 0 / (T + 1) < w256 := Nat.lt_of_le_of_lt (Nat.div_le_self _ _) hZl
    have h := refWork_case c T (T + 1) (notN 0) (notN 0 / (T + 1)) (notN 0 % (T + 1)) (notN 0 % (T + 1) + 1) (addN (notN 0 / (T + 1)) 1) (cmpN (notN 0 % (T + 1) + 1) (T + 1)) (decide (notN 0 % (T + 1) + 1 = T + 1)) (addOv T 1) (addOv (notN 0 % (T + 1)) 1) (addOv (notN 0 / (T + 1)) 1) w
      (Lib.hid hK) (Lib.hid fun w => by have := refAdd_any T 1 w hT l1; rwa [hN, lit_one] at this) (Lib.hid fun w => by have := refNot_any 0 w l0; rwa [lit_zero] at this) (Lib.hid fun w => refQuot_any _ _ w hZl hs (by omega))
      (Lib.hid fun w => by have := refAdd_any (notN 0 % (T + 1)) 1 w (Nat.lt_of_succ_lt hr) l1; rwa [hR, lit_one] at this) (Lib.hid fun w => refCmp_any _ _ w hr hs) (Lib.hid fun w => by have := refAdd_any (notN 0 / (T + 1)) 1 w hql l1; rwa [lit_one] at this)
      (by have := cmp_zero (notN 0 % (T + 1) + 1) (T + 1); rw [← this]; apply Bool.eq_iff_iff.2; simp)
    by_cases htie : notN 0 % (T + 1) + 1 = T + 1
    · rw [decide_eq_true htie] at h
      simp only [if_true] at h
      have e : addN (notN 0 / (T + 1)) 1 = w256 / (T + 1) := by
        have := ht1 htie
        unfold addN; rw [hZ, this]; exact Nat.mod_eq_of_lt hq2
      rwa [e] at h
    · rw [decide_eq_false htie] at h
      simp only [Bool.false_eq_true, if_false] at h
      have e : notN 0 / (T + 1) = w256 / (T + 1) := ht2 htie
      rwa [e] at h
  · have he : xE c = 11 := by unfold xE; rw [hb]; rfl
    have hw : workN c = 0 := by unfold workN; rw [hb]; rfl
    rw [he] at hK
    rw [hw, lit_zero]
    exact refWork_none c (xN c) w (Lib.hid hK)
end Go.Proofs.Ythmaijmjhfngpaa
