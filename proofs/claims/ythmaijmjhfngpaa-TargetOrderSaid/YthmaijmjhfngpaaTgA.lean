/- What bits expand to: the program's walk. -/
import Derived.Test.YthmaijmjhfngpaaTgPl
import Derived.Test.YthmaijmjhfngpaaWideBb
namespace Go.Proofs.Ythmaijmjhfngpaa
open Go.RowKit

theorem bel_al {w b : World} (h : Below w.heap.size w b) (o : Obj) : Below w.heap.size w (b.alloc o) := h.alloc h.size o
set_option maxRecDepth 100000 in
set_option maxHeartbeats 8000000 in
theorem expand_case (c m e raw L : Nat) (t1 t2 z lb : Bool) (w : World) (he : e ≤ 255) (hc : c ≤ 4294967295) (hm7 : m ≤ 8388607) (hL : L ≤ 64)
    (em : bits .and .u32 (c : Nat) 8388607 = (m : Nat)) (ee : (c : Int) / 16777216 = (e : Nat)) (e1 : ((m : Int) != 0) = t1) (e2 : (bits .and .u32 (c : Nat) 8388608 != 0) = t2)
    (KO : Hid (∀ w, Calls Try.prog 23 #[.int .u64 (m : Nat)] w (BRet (.agg #[.int .u64 (m : Nat), .int .u64 0, .int .u64 0, .int .u64 0]) w)))
    (KS : Hid (∀ w, Calls Try.prog 30 #[.agg #[.int .u64 (m : Nat), .int .u64 0, .int .u64 0, .int .u64 0], .int .i64 (8 * ((e : Int) - 3))] w (BRet (.agg #[.int .u64 (wd raw 0 : Nat), .int .u64 (wd raw 1 : Nat), .int .u64 (wd raw 2 : Nat), .int .u64 (wd raw 3 : Nat)]) w)))
    (E : ∀ w, (binOp .eql 25 (.agg #[.int .u64 (wd raw 0 : Nat), .int .u64 (wd raw 1 : Nat), .int .u64 (wd raw 2 : Nat), .int .u64 (wd raw 3 : Nat)]) (.agg #[.int .u64 0, .int .u64 0, .int .u64 0, .int .u64 0])).run Try.prog w = .ok (.bool z) w)
    (KL : Hid (∀ w, Calls Try.prog 31 #[.int .u32 (m : Nat)] w fun e w' => e = .returned (.int .i64 (L : Nat)) ∧ w = w'))
    (hlb : decide (256 < 8 * ((e : Int) - 3) + (L : Int)) = lb) :
    Calls Try.prog 10 #[.int .u32 c] w (BRet (if (t1 && t2) || z || lb then .tuple #[.agg #[.int .u64 0, .int .u64 0, .int .u64 0, .int .u64 0], .int .i64 11] else .tuple #[.agg #[.int .u64 (wd raw 0 : Nat), .int .u64 (wd raw 1 : Nat), .int .u64 (wd raw 2 : Nat), .int .u64 (wd raw 3 : Nat)], .int .i64 0]) w) := by
  cases t1
  · simp only [Bool.false_and, Bool.false_or]
    clear e2
    cases z
    · simp only [Bool.false_or]
      cases lb
      · simp only [Bool.false_eq_true, if_false]
        have hlb' : ¬ (256 < 8 * ((e : Int) - 3) + (L : Int)) := by simpa using hlb
        clear hlb
        go_enter Try.func10, Try.ntmps10
        go_wp2_with fail
        refine (KO.out _).mono ?_
        rintro e w1 ⟨rfl, hb1⟩
        have Ho1 := Lib.hid ((show IsBlk _ (w.heap.size) 25 #[.int .u64 0, .int .u64 0, .int .u64 0, .int .u64 0] from (IsBlk.newAt _ _ rfl)).after hb1)
        have HB1 := Lib.hid ((show Below w.heap.size w _ from by repeat' (first | exact Below.refl _ _ | refine bel_drewN ?_ _ | refine Below.drew ?_ | refine Below.alloc ?_ ?_ _ | refine Below.setCell ?_ ?_ _ | exact Nat.le_refl _ | (simp; done) | (simp; omega) | assumption)).trans (hb1.mono (by simp <;> omega)))
        clear hb1
        go_wp2_with fail
        refine (KS.out _).mono ?_
        rintro e w2 ⟨rfl, hb2⟩
        have Ho2 := Lib.hid (Ho1.out.after hb2)
        have HB2 := Lib.hid (bel_on HB1.out hb2)
        clear hb2
        clear Ho1 HB1
        have ho := Ho2.out
        have vo0 := ho.cell 0
        have vo1 := ho.cell 1
        have vo2 := ho.cell 2
        have vo3 := ho.cell 3
        simp at vo0 vo1 vo2 vo3
        have frvo := ho.free
        have lvo := ho.lt
        clear ho
        go_wp2_with fail
        refine (KL.out _).mono ?_
        rintro e w3 ⟨rfl, rfl⟩
        go_wp2_with fail
        have z := (((((Ho2.out.put 0 (.int .u64 (wd raw 0 : Nat))).put 1 (.int .u64 (wd raw 1 : Nat))).put 2 (.int .u64 (wd raw 2 : Nat))).put 3 (.int .u64 (wd raw 3 : Nat))).alloc (.cells #[.int .u64 (wd raw 0 : Nat), .int .u64 (wd raw 1 : Nat), .int .u64 (wd raw 2 : Nat), .int .u64 (wd raw 3 : Nat)] 25))
        have z0 := z.cell 0
        have z1 := z.cell 1
        have z2 := z.cell 2
        have z3 := z.cell 3
        simp at z0 z1 z2 z3
        refine bodyPost_ret (v := .tuple #[.agg #[.int .u64 (wd raw 0 : Nat), .int .u64 (wd raw 1 : Nat), .int .u64 (wd raw 2 : Nat), .int .u64 (wd raw 3 : Nat)], .int .i64 0]) ?_ rfl ⟨rfl, ?_⟩
        · simp [results, Try.results10, go_sem, z0, z1, z2, z3]
        · exact (bel_al (bel4 HB2.out (by first | omega | (simp; done) | (simp; omega))) _)
      · simp only [if_true]
        have hlb' : 256 < 8 * ((e : Int) - 3) + (L : Int) := by simpa using hlb
        clear hlb
        go_enter Try.func10, Try.ntmps10
        go_wp2_with fail
        refine (KO.out _).mono ?_
        rintro e w1 ⟨rfl, hb1⟩
        have Ho1 := Lib.hid ((show IsBlk _ (w.heap.size) 25 #[.int .u64 0, .int .u64 0, .int .u64 0, .int .u64 0] from (IsBlk.newAt _ _ rfl)).after hb1)
        have HB1 := Lib.hid ((show Below w.heap.size w _ from by repeat' (first | exact Below.refl _ _ | refine bel_drewN ?_ _ | refine Below.drew ?_ | refine Below.alloc ?_ ?_ _ | refine Below.setCell ?_ ?_ _ | exact Nat.le_refl _ | (simp; done) | (simp; omega) | assumption)).trans (hb1.mono (by simp <;> omega)))
        clear hb1
        go_wp2_with fail
        refine (KS.out _).mono ?_
        rintro e w2 ⟨rfl, hb2⟩
        have Ho2 := Lib.hid (Ho1.out.after hb2)
        have HB2 := Lib.hid (bel_on HB1.out hb2)
        clear hb2
        clear Ho1 HB1
        have ho := Ho2.out
        have vo0 := ho.cell 0
        have vo1 := ho.cell 1
        have vo2 := ho.cell 2
        have vo3 := ho.cell 3
        simp at vo0 vo1 vo2 vo3
        have frvo := ho.free
        have lvo := ho.lt
        clear ho
        go_wp2_with fail
        refine (KL.out _).mono ?_
        rintro e w3 ⟨rfl, rfl⟩
        go_wp2_with fail
        have z := (((((Ho2.out.put 0 (.int .u64 0)).put 1 (.int .u64 0)).put 2 (.int .u64 0)).put 3 (.int .u64 0)).alloc (.cells #[.int .u64 (wd raw 0 : Nat), .int .u64 (wd raw 1 : Nat), .int .u64 (wd raw 2 : Nat), .int .u64 (wd raw 3 : Nat)] 25))
        have z0 := z.cell 0
        have z1 := z.cell 1
        have z2 := z.cell 2
        have z3 := z.cell 3
        simp at z0 z1 z2 z3
        refine bodyPost_ret (v := .tuple #[.agg #[.int .u64 0, .int .u64 0, .int .u64 0, .int .u64 0], .int .i64 11]) ?_ rfl ⟨rfl, ?_⟩
        · simp [results, Try.results10, go_sem, z0, z1, z2, z3]
        · exact (bel_al (bel4 HB2.out (by first | omega | (simp; done) | (simp; omega))) _)
    · simp only [Bool.true_or, if_true]
      clear hlb
      go_enter Try.func10, Try.ntmps10
      go_wp2_with fail
      refine (KO.out _).mono ?_
      rintro e w1 ⟨rfl, hb1⟩
      have Ho1 := Lib.hid ((show IsBlk _ (w.heap.size) 25 #[.int .u64 0, .int .u64 0, .int .u64 0, .int .u64 0] from (IsBlk.newAt _ _ rfl)).after hb1)
      have HB1 := Lib.hid ((show Below w.heap.size w _ from by repeat' (first | exact Below.refl _ _ | refine bel_drewN ?_ _ | refine Below.drew ?_ | refine Below.alloc ?_ ?_ _ | refine Below.setCell ?_ ?_ _ | exact Nat.le_refl _ | (simp; done) | (simp; omega) | assumption)).trans (hb1.mono (by simp <;> omega)))
      clear hb1
      go_wp2_with fail
      refine (KS.out _).mono ?_
      rintro e w2 ⟨rfl, hb2⟩
      have Ho2 := Lib.hid (Ho1.out.after hb2)
      have HB2 := Lib.hid (bel_on HB1.out hb2)
      clear hb2
      clear Ho1 HB1
      have ho := Ho2.out
      have vo0 := ho.cell 0
      have vo1 := ho.cell 1
      have vo2 := ho.cell 2
      have vo3 := ho.cell 3
      simp at vo0 vo1 vo2 vo3
      have frvo := ho.free
      have lvo := ho.lt
      clear ho
      go_wp2_with fail
      have z := (((((Ho2.out.put 0 (.int .u64 0)).put 1 (.int .u64 0)).put 2 (.int .u64 0)).put 3 (.int .u64 0)).alloc (.cells #[.int .u64 (wd raw 0 : Nat), .int .u64 (wd raw 1 : Nat), .int .u64 (wd raw 2 : Nat), .int .u64 (wd raw 3 : Nat)] 25))
      have z0 := z.cell 0
      have z1 := z.cell 1
      have z2 := z.cell 2
      have z3 := z.cell 3
      simp at z0 z1 z2 z3
      refine bodyPost_ret (v := .tuple #[.agg #[.int .u64 0, .int .u64 0, .int .u64 0, .int .u64 0], .int .i64 11]) ?_ rfl ⟨rfl, ?_⟩
      · simp [results, Try.results10, go_sem, z0, z1, z2, z3]
      · exact (bel_al (bel4 HB2.out (by first | omega | (simp; done) | (simp; omega))) _)
  · cases t2
    · simp only [Bool.and_false, Bool.false_or]
      cases z
      · simp only [Bool.false_or]
        cases lb
        · simp only [Bool.false_eq_true, if_false]
          have hlb' : ¬ (256 < 8 * ((e : Int) - 3) + (L : Int)) := by simpa using hlb
          clear hlb
          go_enter Try.func10, Try.ntmps10
          go_wp2_with fail
          refine (KO.out _).mono ?_
          rintro e w1 ⟨rfl, hb1⟩
          have Ho1 := Lib.hid ((show IsBlk _ (w.heap.size) 25 #[.int .u64 0, .int .u64 0, .int .u64 0, .int .u64 0] from (IsBlk.newAt _ _ rfl)).after hb1)
          have HB1 := Lib.hid ((show Below w.heap.size w _ from by repeat' (first | exact Below.refl _ _ | refine bel_drewN ?_ _ | refine Below.drew ?_ | refine Below.alloc ?_ ?_ _ | refine Below.setCell ?_ ?_ _ | exact Nat.le_refl _ | (simp; done) | (simp; omega) | assumption)).trans (hb1.mono (by simp <;> omega)))
          clear hb1
          go_wp2_with fail
          refine (KS.out _).mono ?_
          rintro e w2 ⟨rfl, hb2⟩
          have Ho2 := Lib.hid (Ho1.out.after hb2)
          have HB2 := Lib.hid (bel_on HB1.out hb2)
          clear hb2
          clear Ho1 HB1
          have ho := Ho2.out
          have vo0 := ho.cell 0
          have vo1 := ho.cell 1
          have vo2 := ho.cell 2
          have vo3 := ho.cell 3
          simp at vo0 vo1 vo2 vo3
          have frvo := ho.free
          have lvo := ho.lt
          clear ho
          go_wp2_with fail
          refine (KL.out _).mono ?_
          rintro e w3 ⟨rfl, rfl⟩
          go_wp2_with fail
          have z := (((((Ho2.out.put 0 (.int .u64 (wd raw 0 : Nat))).put 1 (.int .u64 (wd raw 1 : Nat))).put 2 (.int .u64 (wd raw 2 : Nat))).put 3 (.int .u64 (wd raw 3 : Nat))).alloc (.cells #[.int .u64 (wd raw 0 : Nat), .int .u64 (wd raw 1 : Nat), .int .u64 (wd raw 2 : Nat), .int .u64 (wd raw 3 : Nat)] 25))
          have z0 := z.cell 0
          have z1 := z.cell 1
          have z2 := z.cell 2
          have z3 := z.cell 3
          simp at z0 z1 z2 z3
          refine bodyPost_ret (v := .tuple #[.agg #[.int .u64 (wd raw 0 : Nat), .int .u64 (wd raw 1 : Nat), .int .u64 (wd raw 2 : Nat), .int .u64 (wd raw 3 : Nat)], .int .i64 0]) ?_ rfl ⟨rfl, ?_⟩
          · simp [results, Try.results10, go_sem, z0, z1, z2, z3]
          · exact (bel_al (bel4 HB2.out (by first | omega | (simp; done) | (simp; omega))) _)
        · simp only [if_true]
          have hlb' : 256 < 8 * ((e : Int) - 3) + (L : Int) := by simpa using hlb
          clear hlb
          go_enter Try.func10, Try.ntmps10
          go_wp2_with fail
          refine (KO.out _).mono ?_
          rintro e w1 ⟨rfl, hb1⟩
          have Ho1 := Lib.hid ((show IsBlk _ (w.heap.size) 25 #[.int .u64 0, .int .u64 0, .int .u64 0, .int .u64 0] from (IsBlk.newAt _ _ rfl)).after hb1)
          have HB1 := Lib.hid ((show Below w.heap.size w _ from by repeat' (first | exact Below.refl _ _ | refine bel_drewN ?_ _ | refine Below.drew ?_ | refine Below.alloc ?_ ?_ _ | refine Below.setCell ?_ ?_ _ | exact Nat.le_refl _ | (simp; done) | (simp; omega) | assumption)).trans (hb1.mono (by simp <;> omega)))
          clear hb1
          go_wp2_with fail
          refine (KS.out _).mono ?_
          rintro e w2 ⟨rfl, hb2⟩
          have Ho2 := Lib.hid (Ho1.out.after hb2)
          have HB2 := Lib.hid (bel_on HB1.out hb2)
          clear hb2
          clear Ho1 HB1
          have ho := Ho2.out
          have vo0 := ho.cell 0
          have vo1 := ho.cell 1
          have vo2 := ho.cell 2
          have vo3 := ho.cell 3
          simp at vo0 vo1 vo2 vo3
          have frvo := ho.free
          have lvo := ho.lt
          clear ho
          go_wp2_with fail
          refine (KL.out _).mono ?_
          rintro e w3 ⟨rfl, rfl⟩
          go_wp2_with fail
          have z := (((((Ho2.out.put 0 (.int .u64 0)).put 1 (.int .u64 0)).put 2 (.int .u64 0)).put 3 (.int .u64 0)).alloc (.cells #[.int .u64 (wd raw 0 : Nat), .int .u64 (wd raw 1 : Nat), .int .u64 (wd raw 2 : Nat), .int .u64 (wd raw 3 : Nat)] 25))
          have z0 := z.cell 0
          have z1 := z.cell 1
          have z2 := z.cell 2
          have z3 := z.cell 3
          simp at z0 z1 z2 z3
          refine bodyPost_ret (v := .tuple #[.agg #[.int .u64 0, .int .u64 0, .int .u64 0, .int .u64 0], .int .i64 11]) ?_ rfl ⟨rfl, ?_⟩
          · simp [results, Try.results10, go_sem, z0, z1, z2, z3]
          · exact (bel_al (bel4 HB2.out (by first | omega | (simp; done) | (simp; omega))) _)
      · simp only [Bool.true_or, if_true]
        clear hlb
        go_enter Try.func10, Try.ntmps10
        go_wp2_with fail
        refine (KO.out _).mono ?_
        rintro e w1 ⟨rfl, hb1⟩
        have Ho1 := Lib.hid ((show IsBlk _ (w.heap.size) 25 #[.int .u64 0, .int .u64 0, .int .u64 0, .int .u64 0] from (IsBlk.newAt _ _ rfl)).after hb1)
        have HB1 := Lib.hid ((show Below w.heap.size w _ from by repeat' (first | exact Below.refl _ _ | refine bel_drewN ?_ _ | refine Below.drew ?_ | refine Below.alloc ?_ ?_ _ | refine Below.setCell ?_ ?_ _ | exact Nat.le_refl _ | (simp; done) | (simp; omega) | assumption)).trans (hb1.mono (by simp <;> omega)))
        clear hb1
        go_wp2_with fail
        refine (KS.out _).mono ?_
        rintro e w2 ⟨rfl, hb2⟩
        have Ho2 := Lib.hid (Ho1.out.after hb2)
        have HB2 := Lib.hid (bel_on HB1.out hb2)
        clear hb2
        clear Ho1 HB1
        have ho := Ho2.out
        have vo0 := ho.cell 0
        have vo1 := ho.cell 1
        have vo2 := ho.cell 2
        have vo3 := ho.cell 3
        simp at vo0 vo1 vo2 vo3
        have frvo := ho.free
        have lvo := ho.lt
        clear ho
        go_wp2_with fail
        have z := (((((Ho2.out.put 0 (.int .u64 0)).put 1 (.int .u64 0)).put 2 (.int .u64 0)).put 3 (.int .u64 0)).alloc (.cells #[.int .u64 (wd raw 0 : Nat), .int .u64 (wd raw 1 : Nat), .int .u64 (wd raw 2 : Nat), .int .u64 (wd raw 3 : Nat)] 25))
        have z0 := z.cell 0
        have z1 := z.cell 1
        have z2 := z.cell 2
        have z3 := z.cell 3
        simp at z0 z1 z2 z3
        refine bodyPost_ret (v := .tuple #[.agg #[.int .u64 0, .int .u64 0, .int .u64 0, .int .u64 0], .int .i64 11]) ?_ rfl ⟨rfl, ?_⟩
        · simp [results, Try.results10, go_sem, z0, z1, z2, z3]
        · exact (bel_al (bel4 HB2.out (by first | omega | (simp; done) | (simp; omega))) _)
    · simp only [Bool.and_self, Bool.true_or, if_true]
      clear hlb
      go_enter Try.func10, Try.ntmps10
      go_wp2_with fail
      refine (KO.out _).mono ?_
      rintro e w1 ⟨rfl, hb1⟩
      have Ho1 := Lib.hid ((show IsBlk _ (w.heap.size) 25 #[.int .u64 0, .int .u64 0, .int .u64 0, .int .u64 0] from (IsBlk.newAt _ _ rfl)).after hb1)
      have HB1 := Lib.hid ((show Below w.heap.size w _ from by repeat' (first | exact Below.refl _ _ | refine bel_drewN ?_ _ | refine Below.drew ?_ | refine Below.alloc ?_ ?_ _ | refine Below.setCell ?_ ?_ _ | exact Nat.le_refl _ | (simp; done) | (simp; omega) | assumption)).trans (hb1.mono (by simp <;> omega)))
      clear hb1
      go_wp2_with fail
      refine (KS.out _).mono ?_
      rintro e w2 ⟨rfl, hb2⟩
      have Ho2 := Lib.hid (Ho1.out.after hb2)
      have HB2 := Lib.hid (bel_on HB1.out hb2)
      clear hb2
      clear Ho1 HB1
      have ho := Ho2.out
      have vo0 := ho.cell 0
      have vo1 := ho.cell 1
      have vo2 := ho.cell 2
      have vo3 := ho.cell 3
      simp at vo0 vo1 vo2 vo3
      have frvo := ho.free
      have lvo := ho.lt
      clear ho
      go_wp2_with fail
      have z := (((((Ho2.out.put 0 (.int .u64 0)).put 1 (.int .u64 0)).put 2 (.int .u64 0)).put 3 (.int .u64 0)).alloc (.cells #[.int .u64 (wd raw 0 : Nat), .int .u64 (wd raw 1 : Nat), .int .u64 (wd raw 2 : Nat), .int .u64 (wd raw 3 : Nat)] 25))
      have z0 := z.cell 0
      have z1 := z.cell 1
      have z2 := z.cell 2
      have z3 := z.cell 3
      simp at z0 z1 z2 z3
      refine bodyPost_ret (v := .tuple #[.agg #[.int .u64 0, .int .u64 0, .int .u64 0, .int .u64 0], .int .i64 11]) ?_ rfl ⟨rfl, ?_⟩
      · simp [results, Try.results10, go_sem, z0, z1, z2, z3]
      · exact (bel_al (bel4 HB2.out (by first | omega | (simp; done) | (simp; omega))) _)

theorem expand_any (c : Nat) (w : World) (hc : c < 4294967296) : Calls Try.prog 10 #[.int .u32 c] w (BRet (.tuple #[.agg #[.int .u64 (wd (xN c) 0 : Nat), .int .u64 (wd (xN c) 1 : Nat), .int .u64 (wd (xN c) 2 : Nat), .int .u64 (wd (xN c) 3 : Nat)], .int .i64 (xE c)]) w) := by
  have hm := manB_lt c
  have hs : shB c = 8 * ((expB c : Int) - 3) := rfl
  have hbl : Lib.bitLen (manB c) = bitsN (manB c) := bitLen_bitsN (by rw [two64]; omega)
  have hble : bitsN (manB c) ≤ 23 := bitsN_le hm
  have h := expand_case c (manB c) (expB c) (rawB c) (bitsN (manB c)) (decide (manB c ≠ 0)) (sgnB c) (decide (rawB c = 0)) (decide (256 < shB c + bitsN (manB c))) w (by have := expB_lt hc; omega) (by omega) (by omega) (by omega)
    (man_bits hc) (by unfold expB; omega) (by apply Bool.eq_iff_iff.2; simp) (sgn_bits hc) (Lib.hid fun w => of_any _ w)
    (Lib.hid fun w => by have := sh_any (manB_w c) (shB c) w; rwa [small_words (n := manB c) (by omega), hs] at this)
    (fun w => eqW_zero (rawB_lt c) w) (Lib.hid fun w => (Try.bits_Len32 _ w (by omega) (by omega)).mono fun _ _ ⟨h1, h2⟩ => ⟨by rw [h1, Int.toNat_natCast, hbl], h2.symm⟩) (by rw [hs])
  rw [show ((decide (manB c ≠ 0) && sgnB c) || decide (rawB c = 0) || decide (256 < shB c + bitsN (manB c))) = badB c from rfl] at h
  unfold xN xE
  cases hb : badB c
  · rw [hb] at h; exact h
  · rw [hb] at h
    simp only [if_true] at h ⊢
    rw [lit_zero]; exact h
end Go.Proofs.Ythmaijmjhfngpaa
