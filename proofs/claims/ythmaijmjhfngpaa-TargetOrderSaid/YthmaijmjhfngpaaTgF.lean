/- Does a name meet its bits: the program's walk; the little law. -/
import Derived.Test.YthmaijmjhfngpaaTgE
import Derived.Test.YthmaijmjhfngpaaWideT
namespace Go.Proofs.Ythmaijmjhfngpaa
open Go.RowKit

/-- What a name is told of its bits. -/
def meetN (F c l : Nat) : Int := if badB c || badB l || decide (xN l < xN c) then 11 else if xN c < F then 10 else 0
theorem cmp_pos (a b : Nat) : decide (0 < cmpN a b) = decide (b < a) := by
  unfold cmpN
  by_cases h : a < b
  · rw [if_pos h]; simp; omega
  · rw [if_neg h]
    by_cases h2 : a = b
    · rw [if_pos h2]; simp; omega
    · rw [if_neg h2]; simp; omega

set_option maxRecDepth 100000 in
set_option maxHeartbeats 8000000 in
theorem meets_case (c l X Y F : Nat) (M M2 : Int) (ok : Bool) (ch : Array Value) (hch : ch.size = 32) (w : World)
    (K1 : Hid (∀ w, Calls Try.prog 35 #[.int .u32 c, .int .u32 l] w (BRet (.tuple #[.agg #[.int .u64 (wd X 0 : Nat), .int .u64 (wd X 1 : Nat), .int .u64 (wd X 2 : Nat), .int .u64 (wd X 3 : Nat)], .agg #[.int .u64 (wd Y 0 : Nat), .int .u64 (wd Y 1 : Nat), .int .u64 (wd Y 2 : Nat), .int .u64 (wd Y 3 : Nat)], .bool ok]) w)))
    (K2 : Hid (∀ w, Calls Try.prog 19 #[.agg #[.int .u64 (wd X 0 : Nat), .int .u64 (wd X 1 : Nat), .int .u64 (wd X 2 : Nat), .int .u64 (wd X 3 : Nat)], .agg #[.int .u64 (wd Y 0 : Nat), .int .u64 (wd Y 1 : Nat), .int .u64 (wd Y 2 : Nat), .int .u64 (wd Y 3 : Nat)]] w (BRet (.int .i64 M) w)))
    (K3 : Hid (∀ w, Calls Try.prog 36 #[.agg ch] w (BRet (.agg #[.int .u64 (wd F 0 : Nat), .int .u64 (wd F 1 : Nat), .int .u64 (wd F 2 : Nat), .int .u64 (wd F 3 : Nat)]) w)))
    (K4 : Hid (∀ w, Calls Try.prog 19 #[.agg #[.int .u64 (wd F 0 : Nat), .int .u64 (wd F 1 : Nat), .int .u64 (wd F 2 : Nat), .int .u64 (wd F 3 : Nat)], .agg #[.int .u64 (wd X 0 : Nat), .int .u64 (wd X 1 : Nat), .int .u64 (wd X 2 : Nat), .int .u64 (wd X 3 : Nat)]] w (BRet (.int .i64 M2) w))) :
    Calls Try.prog 15 #[.agg ch, .int .u32 c, .int .u32 l] w (BRet (.int .i64 (if !ok || decide (0 < M) then 11 else if 0 < M2 then 10 else 0)) w) := by
  have HCH := Lib.hid hch
  clear hch
  cases ok
  · simp only [Bool.not_false, Bool.true_or, if_true]
    go_enter Try.func15, Try.ntmps15
    go_wp2_with fail
    refine (K1.out _).mono ?_
    rintro e w1 ⟨rfl, hb1⟩
    have Hh1 := Lib.hid ((show IsBlk _ (w.heap.size) 35 ch from (IsBlk.newAt _ _ rfl)).after hb1)
    have HB1 := Lib.hid ((show Below w.heap.size w _ from by repeat' (first | exact Below.refl _ _ | refine bel_drewN ?_ _ | refine Below.drew ?_ | refine Below.alloc ?_ ?_ _ | refine Below.setCell ?_ ?_ _ | exact Nat.le_refl _ | (simp; done) | (simp; omega) | assumption)).trans (hb1.mono (by simp <;> omega)))
    clear hb1
    go_wp2_with fail
    go_ret
    exact ⟨rfl, (bel_al (bel_al HB1.out _) _)⟩
  · by_cases hM : 0 < M
    · simp only [hM, Bool.not_true, Bool.false_or, decide_true, if_true]
      go_enter Try.func15, Try.ntmps15
      go_wp2_with fail
      refine (K1.out _).mono ?_
      rintro e w1 ⟨rfl, hb1⟩
      have Hh1 := Lib.hid ((show IsBlk _ (w.heap.size) 35 ch from (IsBlk.newAt _ _ rfl)).after hb1)
      have HB1 := Lib.hid ((show Below w.heap.size w _ from by repeat' (first | exact Below.refl _ _ | refine bel_drewN ?_ _ | refine Below.drew ?_ | refine Below.alloc ?_ ?_ _ | refine Below.setCell ?_ ?_ _ | exact Nat.le_refl _ | (simp; done) | (simp; omega) | assumption)).trans (hb1.mono (by simp <;> omega)))
      clear hb1
      go_wp2_with fail
      refine (K2.out _).mono ?_
      rintro e w2 ⟨rfl, hb2⟩
      have Hh2 := Lib.hid (((Hh1.out.alloc _).alloc _).after hb2)
      have Hx2 := Lib.hid ((show IsBlk _ (w1.heap.size) 25 #[.int .u64 (wd X 0 : Nat), .int .u64 (wd X 1 : Nat), .int .u64 (wd X 2 : Nat), .int .u64 (wd X 3 : Nat)] from ((IsBlk.newAt _ _ rfl).alloc _)).after hb2)
      have HB2 := Lib.hid (bel_on (bel_al (bel_al HB1.out _) _) hb2)
      clear hb2
      clear Hh1 HB1
      go_wp2_with fail
      go_ret
      exact ⟨rfl, HB2.out⟩
    · by_cases hM2 : 0 < M2
      · simp only [hM, hM2, Bool.not_true, Bool.false_or, decide_false, if_true, Bool.false_eq_true, if_false]
        go_enter Try.func15, Try.ntmps15
        go_wp2_with fail
        refine (K1.out _).mono ?_
        rintro e w1 ⟨rfl, hb1⟩
        have Hh1 := Lib.hid ((show IsBlk _ (w.heap.size) 35 ch from (IsBlk.newAt _ _ rfl)).after hb1)
        have HB1 := Lib.hid ((show Below w.heap.size w _ from by repeat' (first | exact Below.refl _ _ | refine bel_drewN ?_ _ | refine Below.drew ?_ | refine Below.alloc ?_ ?_ _ | refine Below.setCell ?_ ?_ _ | exact Nat.le_refl _ | (simp; done) | (simp; omega) | assumption)).trans (hb1.mono (by simp <;> omega)))
        clear hb1
        go_wp2_with fail
        refine (K2.out _).mono ?_
        rintro e w2 ⟨rfl, hb2⟩
        have Hh2 := Lib.hid (((Hh1.out.alloc _).alloc _).after hb2)
        have Hx2 := Lib.hid ((show IsBlk _ (w1.heap.size) 25 #[.int .u64 (wd X 0 : Nat), .int .u64 (wd X 1 : Nat), .int .u64 (wd X 2 : Nat), .int .u64 (wd X 3 : Nat)] from ((IsBlk.newAt _ _ rfl).alloc _)).after hb2)
        have HB2 := Lib.hid (bel_on (bel_al (bel_al HB1.out _) _) hb2)
        clear hb2
        clear Hh1 HB1
        go_wp2_with fail
        have HLD := Lib.hid (fun w' (h : IsBlk w' w.heap.size 35 ch) => hash_load HCH.out h)
        refine wp_region_seq (S := fun w' => IsBlk w' w.heap.size 35 ch ∧ RB w' w1.heap.size X ∧ Below w.heap.size w w') (by kernel_rfl) (by kernel_rfl) ⟨Hh2.out.drew, RB.of Hx2.out.drew, HB2.out.drew⟩ ?_
        have HST := Lib.hid (show ∀ w1' w2', (IsBlk w1' w.heap.size 35 ch ∧ RB w1' w1.heap.size X ∧ Below w.heap.size w w1') → Below w1'.heap.size w1' w2' → (IsBlk w2' w.heap.size 35 ch ∧ RB w2' w1.heap.size X ∧ Below w.heap.size w w2') from fun _ _ h hb => ⟨h.1.after hb, h.2.1.later hb, bel_on h.2.2 hb⟩)
        generalize w1.heap.size = g1 at *
        repeat (first
          | (refine SeqS.skip ?_ ?_; rfl; (try simp only [Act.put, List.setIfInBounds_toArray, List.set_cons_zero, List.set_cons_succ]))
          | (refine SeqS.long 35 (.agg ch) ?_ rfl rfl (fun w hS => HLD.out w hS.1) ?_; rfl; (try simp only [Act.put, List.setIfInBounds_toArray, List.set_cons_zero, List.set_cons_succ]))
          | (refine SeqS.take (v := ?_) ?_ ?_ ?_; rotate_left; rfl; (intro w hS; simp only [RB] at hS; go_simp; with_reducible rfl); (try simp only [Act.put, List.setIfInBounds_toArray, List.set_cons_zero, List.set_cons_succ]))
          | (refine SeqS.call (v := ?_) (f := ?_) (args := ?_) ?_ ?_ ?_ ?_; rotate_left 3; rfl; (intro w hS; simp only [RB] at hS; go_simp; (first | with_reducible rfl | (refine ⟨?_, ?_⟩ <;> with_reducible rfl))); (intro w hS; first | ((with_reducible refine (K3.out _).mono ?_); rintro e w' ⟨rfl, hb⟩; refine ⟨?_, HST.out _ _ hS hb⟩; with_reducible rfl) | ((with_reducible refine (K4.out _).mono ?_); rintro e w' ⟨rfl, hb⟩; refine ⟨?_, HST.out _ _ hS hb⟩; with_reducible rfl)); (try simp only [Act.put, List.setIfInBounds_toArray, List.set_cons_zero, List.set_cons_succ])))
        refine SeqS.done ?_
        rintro wz ⟨_, _, hbz⟩
        go_wp2_with fail
        go_ret
        exact ⟨rfl, hbz⟩
      · simp only [hM, hM2, Bool.not_true, Bool.false_or, decide_false, Bool.false_eq_true, if_false]
        go_enter Try.func15, Try.ntmps15
        go_wp2_with fail
        refine (K1.out _).mono ?_
        rintro e w1 ⟨rfl, hb1⟩
        have Hh1 := Lib.hid ((show IsBlk _ (w.heap.size) 35 ch from (IsBlk.newAt _ _ rfl)).after hb1)
        have HB1 := Lib.hid ((show Below w.heap.size w _ from by repeat' (first | exact Below.refl _ _ | refine bel_drewN ?_ _ | refine Below.drew ?_ | refine Below.alloc ?_ ?_ _ | refine Below.setCell ?_ ?_ _ | exact Nat.le_refl _ | (simp; done) | (simp; omega) | assumption)).trans (hb1.mono (by simp <;> omega)))
        clear hb1
        go_wp2_with fail
        refine (K2.out _).mono ?_
        rintro e w2 ⟨rfl, hb2⟩
        have Hh2 := Lib.hid (((Hh1.out.alloc _).alloc _).after hb2)
        have Hx2 := Lib.hid ((show IsBlk _ (w1.heap.size) 25 #[.int .u64 (wd X 0 : Nat), .int .u64 (wd X 1 : Nat), .int .u64 (wd X 2 : Nat), .int .u64 (wd X 3 : Nat)] from ((IsBlk.newAt _ _ rfl).alloc _)).after hb2)
        have HB2 := Lib.hid (bel_on (bel_al (bel_al HB1.out _) _) hb2)
        clear hb2
        clear Hh1 HB1
        go_wp2_with fail
        have HLD := Lib.hid (fun w' (h : IsBlk w' w.heap.size 35 ch) => hash_load HCH.out h)
        refine wp_region_seq (S := fun w' => IsBlk w' w.heap.size 35 ch ∧ RB w' w1.heap.size X ∧ Below w.heap.size w w') (by kernel_rfl) (by kernel_rfl) ⟨Hh2.out.drew, RB.of Hx2.out.drew, HB2.out.drew⟩ ?_
        have HST := Lib.hid (show ∀ w1' w2', (IsBlk w1' w.heap.size 35 ch ∧ RB w1' w1.heap.size X ∧ Below w.heap.size w w1') → Below w1'.heap.size w1' w2' → (IsBlk w2' w.heap.size 35 ch ∧ RB w2' w1.heap.size X ∧ Below w.heap.size w w2') from fun _ _ h hb => ⟨h.1.after hb, h.2.1.later hb, bel_on h.2.2 hb⟩)
        generalize w1.heap.size = g1 at *
        repeat (first
          | (refine SeqS.skip ?_ ?_; rfl; (try simp only [Act.put, List.setIfInBounds_toArray, List.set_cons_zero, List.set_cons_succ]))
          | (refine SeqS.long 35 (.agg ch) ?_ rfl rfl (fun w hS => HLD.out w hS.1) ?_; rfl; (try simp only [Act.put, List.setIfInBounds_toArray, List.set_cons_zero, List.set_cons_succ]))
          | (refine SeqS.take (v := ?_) ?_ ?_ ?_; rotate_left; rfl; (intro w hS; simp only [RB] at hS; go_simp; with_reducible rfl); (try simp only [Act.put, List.setIfInBounds_toArray, List.set_cons_zero, List.set_cons_succ]))
          | (refine SeqS.call (v := ?_) (f := ?_) (args := ?_) ?_ ?_ ?_ ?_; rotate_left 3; rfl; (intro w hS; simp only [RB] at hS; go_simp; (first | with_reducible rfl | (refine ⟨?_, ?_⟩ <;> with_reducible rfl))); (intro w hS; first | ((with_reducible refine (K3.out _).mono ?_); rintro e w' ⟨rfl, hb⟩; refine ⟨?_, HST.out _ _ hS hb⟩; with_reducible rfl) | ((with_reducible refine (K4.out _).mono ?_); rintro e w' ⟨rfl, hb⟩; refine ⟨?_, HST.out _ _ hS hb⟩; with_reducible rfl)); (try simp only [Act.put, List.setIfInBounds_toArray, List.set_cons_zero, List.set_cons_succ])))
        refine SeqS.done ?_
        rintro wz ⟨_, _, hbz⟩
        go_wp2_with fail
        go_ret
        exact ⟨rfl, hbz⟩
theorem meets_any (f : Nat → Nat) (hf : ∀ j, f j < 256) (ch : Array Value) (hs : ch.size = 32) (hfc : FillB f 32 ch) (c l : Nat) (w : World) (hc : c < 4294967296) (hl : l < 4294967296) :
    Calls Try.prog 15 #[.agg ch, .int .u32 c, .int .u32 l] w (BRet (.int .i64 (meetN (ofBits (bitsOf f) 256) c l)) w) := by
  have hF : ofBits (bitsOf f) 256 < w256 := ofBits_lt _ 256
  have h := meets_case c l (xN c) (xN l) (ofBits (bitsOf f) 256) (cmpN (xN c) (xN l)) (cmpN (ofBits (bitsOf f) 256) (xN c)) (!badB c && !badB l) ch hs w
    (Lib.hid fun w => pair_any c l w hc hl) (Lib.hid fun w => cmp_any _ _ w (xN_lt c) (xN_lt l)) (Lib.hid (from_any f hf ch hs hfc)) (Lib.hid fun w => cmp_any _ _ w hF (xN_lt c))
  have e : (if (!(!badB c && !badB l)) || decide (0 < cmpN (xN c) (xN l)) then (11 : Int) else if 0 < cmpN (ofBits (bitsOf f) 256) (xN c) then 10 else 0) = meetN (ofBits (bitsOf f) 256) c l := by
    unfold meetN
    rw [cmp_pos]
    have h2 : (0 < cmpN (ofBits (bitsOf f) 256) (xN c)) = (xN c < ofBits (bitsOf f) 256) := by
      have := cmp_pos (ofBits (bitsOf f) 256) (xN c)
      exact propext (decide_eq_decide.1 this)
    simp only [h2]
    cases badB c <;> cases badB l <;> simp
  rw [e] at h
  exact h

set_option maxRecDepth 100000 in
set_option maxHeartbeats 8000000 in
theorem works_case (w : World)
    (K1 : Hid (∀ w, Calls Try.prog 10 #[.int .u32 545259519] w (BRet (.tuple #[.agg #[.int .u64 0, .int .u64 0, .int .u64 0, .int .u64 9223370937343148032], .int .i64 0]) w)))
    (K2 : Hid (∀ w, Calls Try.prog 12 #[.agg #[.int .u64 0, .int .u64 0, .int .u64 0, .int .u64 9223370937343148032]] w (BRet (.int .u32 545259519) w)))
    (K3 : Hid (∀ w, Calls Try.prog 17 #[.int .u32 545259519] w (BRet (.agg #[.int .u64 2, .int .u64 0, .int .u64 0, .int .u64 0]) w)))
    (K4 : Hid (∀ w, Calls Try.prog 15 #[.agg #[.int .u8 0, .int .u8 0, .int .u8 0, .int .u8 0, .int .u8 0, .int .u8 0, .int .u8 0, .int .u8 0, .int .u8 0, .int .u8 0, .int .u8 0, .int .u8 0, .int .u8 0, .int .u8 0, .int .u8 0, .int .u8 0, .int .u8 0, .int .u8 0, .int .u8 0, .int .u8 0, .int .u8 0, .int .u8 0, .int .u8 0, .int .u8 0, .int .u8 0, .int .u8 0, .int .u8 0, .int .u8 0, .int .u8 0, .int .u8 0, .int .u8 0, .int .u8 0], .int .u32 545259519, .int .u32 545259519] w (BRet (.int .i64 0) w))) :
    Calls Try.prog 14 #[] w (BRet (.bool true) w) := by
  have E := eqW_same 2 0 0 0
  go_enter Try.func14, Try.ntmps14
  go_wp2_with fail
  refine (K1.out _).mono ?_
  rintro e w1 ⟨rfl, hb1⟩
  have HB1 := Lib.hid ((show Below w.heap.size w _ from by repeat' (first | exact Below.refl _ _ | refine bel_drewN ?_ _ | refine Below.drew ?_ | refine Below.alloc ?_ ?_ _ | refine Below.setCell ?_ ?_ _ | exact Nat.le_refl _ | (simp; done) | (simp; omega) | assumption)).trans (hb1.mono (by simp <;> omega)))
  clear hb1
  go_wp2_with fail
  refine (K2.out _).mono ?_
  rintro e w2 ⟨rfl, hb2⟩
  have Ha2 := Lib.hid ((show IsBlk _ (w1.heap.size) 25 #[.int .u64 0, .int .u64 0, .int .u64 0, .int .u64 9223370937343148032] from (IsBlk.newAt _ _ rfl)).after hb2)
  have HB2 := Lib.hid (bel_on (bel_al HB1.out _) hb2)
  clear hb2
  clear HB1
  go_wp2_with fail
  refine (K3.out _).mono ?_
  rintro e w3 ⟨rfl, hb3⟩
  have Ha3 := Lib.hid (Ha2.out.after hb3)
  have HB3 := Lib.hid (bel_on HB2.out hb3)
  clear hb3
  clear Ha2 HB2
  go_wp2_with fail
  refine (K4.out _).mono ?_
  rintro e w4 ⟨rfl, hb4⟩
  have Ha4 := Lib.hid (Ha3.out.after hb4)
  have HB4 := Lib.hid (bel_on HB3.out hb4)
  clear hb4
  clear Ha3 HB3
  go_wp2_with fail
  go_ret
  exact ⟨rfl, HB4.out⟩

theorem lit4 (n a b c d : Nat) (h0 : wd n 0 = a) (h1 : wd n 1 = b) (h2 : wd n 2 = c) (h3 : wd n 3 = d) : (.agg #[.int .u64 (wd n 0 : Nat), .int .u64 (wd n 1 : Nat), .int .u64 (wd n 2 : Nat), .int .u64 (wd n 3 : Nat)] : Value) = .agg #[.int .u64 a, .int .u64 b, .int .u64 c, .int .u64 d] := by rw [h0, h1, h2, h3]
def easyT : Nat := 8388607 * 2 ^ 232
theorem easy_x : xN 545259519 = easyT := by decide +kernel
theorem easy_bad : badB 545259519 = false := by decide +kernel
theorem easy_lit : (.agg #[.int .u64 (wd easyT 0 : Nat), .int .u64 (wd easyT 1 : Nat), .int .u64 (wd easyT 2 : Nat), .int .u64 (wd easyT 3 : Nat)] : Value) = .agg #[.int .u64 0, .int .u64 0, .int .u64 0, .int .u64 9223370937343148032] := lit4 easyT 0 0 0 9223370937343148032 (by decide +kernel) (by decide +kernel) (by decide +kernel) (by decide +kernel)
theorem zero_fill : FillB (fun _ => 0) 32 #[.int .u8 0, .int .u8 0, .int .u8 0, .int .u8 0, .int .u8 0, .int .u8 0, .int .u8 0, .int .u8 0, .int .u8 0, .int .u8 0, .int .u8 0, .int .u8 0, .int .u8 0, .int .u8 0, .int .u8 0, .int .u8 0, .int .u8 0, .int .u8 0, .int .u8 0, .int .u8 0, .int .u8 0, .int .u8 0, .int .u8 0, .int .u8 0, .int .u8 0, .int .u8 0, .int .u8 0, .int .u8 0, .int .u8 0, .int .u8 0, .int .u8 0, .int .u8 0] := fun i hi => by
  have : i = 0 ∨ i = 1 ∨ i = 2 ∨ i = 3 ∨ i = 4 ∨ i = 5 ∨ i = 6 ∨ i = 7 ∨ i = 8 ∨ i = 9 ∨ i = 10 ∨ i = 11 ∨ i = 12 ∨ i = 13 ∨ i = 14 ∨ i = 15 ∨ i = 16 ∨ i = 17 ∨ i = 18 ∨ i = 19 ∨ i = 20 ∨ i = 21 ∨ i = 22 ∨ i = 23 ∨ i = 24 ∨ i = 25 ∨ i = 26 ∨ i = 27 ∨ i = 28 ∨ i = 29 ∨ i = 30 ∨ i = 31 := by omega
  rcases this with rfl | rfl | rfl | rfl | rfl | rfl | rfl | rfl | rfl | rfl | rfl | rfl | rfl | rfl | rfl | rfl | rfl | rfl | rfl | rfl | rfl | rfl | rfl | rfl | rfl | rfl | rfl | rfl | rfl | rfl | rfl | rfl <;> rfl
theorem works_any (w : World) : Calls Try.prog 14 #[] w (BRet (.bool true) w) := by
  have hx := easy_x
  have hb := easy_bad
  have he : xE 545259519 = 0 := (xE_ok _).2 hb
  have hl : easyT < w256 := by rw [← hx]; exact xN_lt _
  refine works_case w (Lib.hid fun w => ?_) (Lib.hid fun w => ?_) (Lib.hid fun w => ?_) (Lib.hid fun w => ?_)
  · have := expand_any 545259519 w (by decide)
    rw [hx, he, easy_lit] at this
    exact this
  · have := compact_any easyT w hl
    rw [easy_lit, show cN easyT = 545259519 from by decide +kernel] at this
    exact this
  · have := work_any 545259519 w (by decide)
    rw [show workN 545259519 = 2 from by decide +kernel, lit4 2 2 0 0 0 (by decide) (by decide) (by decide) (by decide)] at this
    exact this
  · have := meets_any (fun _ => 0) (fun _ => by decide) _ rfl zero_fill 545259519 545259519 w (by decide) (by decide)
    rw [show meetN (ofBits (bitsOf fun _ => 0) 256) 545259519 545259519 = 0 from by decide +kernel] at this
    exact this
end Go.Proofs.Ythmaijmjhfngpaa
