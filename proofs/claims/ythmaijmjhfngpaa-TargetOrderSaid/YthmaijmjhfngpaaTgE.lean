/- Pairs of bits, and the work of bits: the program's walks. -/
import Derived.Test.YthmaijmjhfngpaaTgD
import Derived.Deep.DeepCutAuto
namespace Go.Proofs.Ythmaijmjhfngpaa
open Go.RowKit

theorem xE_or (c : Nat) : xE c = 0 ∨ xE c = 11 := by unfold xE; cases badB c <;> simp
theorem xE_test (c : Nat) : (xE c == 0) = !badB c := by unfold xE; cases badB c <;> rfl

set_option maxRecDepth 100000 in
set_option maxHeartbeats 8000000 in
theorem pair_case (c l X Y : Nat) (e f : Int) (t1 t2 : Bool) (w : World)
    (K1 : Hid (∀ w, Calls Try.prog 10 #[.int .u32 c] w (BRet (.tuple #[.agg #[.int .u64 (wd X 0 : Nat), .int .u64 (wd X 1 : Nat), .int .u64 (wd X 2 : Nat), .int .u64 (wd X 3 : Nat)], .int .i64 e]) w)))
    (K2 : Hid (∀ w, Calls Try.prog 10 #[.int .u32 l] w (BRet (.tuple #[.agg #[.int .u64 (wd Y 0 : Nat), .int .u64 (wd Y 1 : Nat), .int .u64 (wd Y 2 : Nat), .int .u64 (wd Y 3 : Nat)], .int .i64 f]) w)))
    (h1 : (e == 0) = t1) (h2 : (f == 0) = t2) :
    Calls Try.prog 35 #[.int .u32 c, .int .u32 l] w (BRet (.tuple #[.agg #[.int .u64 (wd X 0 : Nat), .int .u64 (wd X 1 : Nat), .int .u64 (wd X 2 : Nat), .int .u64 (wd X 3 : Nat)], .agg #[.int .u64 (wd Y 0 : Nat), .int .u64 (wd Y 1 : Nat), .int .u64 (wd Y 2 : Nat), .int .u64 (wd Y 3 : Nat)], .bool (t1 && t2)]) w) := by
  go_enter Try.func35, Try.ntmps35
  go_wp2_with fail
  refine (K1.out _).mono ?_
  rintro e1 w1 ⟨rfl, hb1⟩
  have hA := (show IsBlk _ (w.heap.size) 25 #[.int .u64 0, .int .u64 0, .int .u64 0, .int .u64 0] from (IsBlk.newAt _ _ rfl).alloc _).after hb1
  have hC := (show IsBlk _ (w.heap.size + 1) 25 #[.int .u64 0, .int .u64 0, .int .u64 0, .int .u64 0] from IsBlk.newAt _ _ (by simp)).after hb1
  have hB := (show Below w.heap.size w _ from by repeat' (first | exact Below.refl _ _ | refine bel_drewN ?_ _ | refine Below.drew ?_ | refine Below.alloc ?_ ?_ _ | refine Below.setCell ?_ ?_ _ | exact Nat.le_refl _ | (simp; done) | (simp; omega) | assumption)).trans (hb1.mono (by simp <;> omega))
  have x0 := hA.cell 0
  have x1 := hA.cell 1
  have x2 := hA.cell 2
  have x3 := hA.cell 3
  simp at x0 x1 x2 x3
  have frx := hA.free
  have lx := hA.lt
  have HA := Lib.hid hA
  have HC := Lib.hid hC
  have HB := Lib.hid hB
  clear hA hC hB hb1
  go_wp2_with fail
  refine (K2.out _).mono ?_
  rintro e1 w2 ⟨rfl, hb2⟩
  have hA2 := (stored4 (v0 := .int .u64 (wd X 0 : Nat)) (v1 := .int .u64 (wd X 1 : Nat)) (v2 := .int .u64 (wd X 2 : Nat)) (v3 := .int .u64 (wd X 3 : Nat)) HA.out).after hb2
  have hC2 := (far4 (g' := w.heap.size) (v0 := .int .u64 (wd X 0 : Nat)) (v1 := .int .u64 (wd X 1 : Nat)) (v2 := .int .u64 (wd X 2 : Nat)) (v3 := .int .u64 (wd X 3 : Nat)) HC.out (by omega)).after hb2
  have hB2 := bel_on (bel4 (g' := w.heap.size) (v0 := .int .u64 (wd X 0 : Nat)) (v1 := .int .u64 (wd X 1 : Nat)) (v2 := .int .u64 (wd X 2 : Nat)) (v3 := .int .u64 (wd X 3 : Nat)) HB.out (by omega)) hb2
  clear x0 x1 x2 x3 frx lx hb2
  have x0 := hC2.cell 0
  have x1 := hC2.cell 1
  have x2 := hC2.cell 2
  have x3 := hC2.cell 3
  simp at x0 x1 x2 x3
  have frx := hC2.free
  have lx := hC2.lt
  have lx' : w.heap.size < w2.heap.size := by omega
  have HA2 := Lib.hid hA2
  have HC2 := Lib.hid hC2
  have HB2 := Lib.hid hB2
  clear hA2 hC2 hB2
  have fin : ∀ w3 : World, IsBlk w3 w.heap.size 25 #[.int .u64 (wd X 0 : Nat), .int .u64 (wd X 1 : Nat), .int .u64 (wd X 2 : Nat), .int .u64 (wd X 3 : Nat)] → IsBlk w3 (w.heap.size + 1) 25 #[.int .u64 (wd Y 0 : Nat), .int .u64 (wd Y 1 : Nat), .int .u64 (wd Y 2 : Nat), .int .u64 (wd Y 3 : Nat)] → True := fun _ _ _ => trivial
  clear fin
  go_upto_region 3 with fail
  refine wp_gen (fun w' => IsBlk w' w.heap.size 25 #[.int .u64 (wd X 0 : Nat), .int .u64 (wd X 1 : Nat), .int .u64 (wd X 2 : Nat), .int .u64 (wd X 3 : Nat)] ∧ IsBlk w' (w.heap.size + 1) 25 #[.int .u64 (wd Y 0 : Nat), .int .u64 (wd Y 1 : Nat), .int .u64 (wd Y 2 : Nat), .int .u64 (wd Y 3 : Nat)] ∧ Below w.heap.size w w')
    ⟨far4 HA2.out (by omega), stored4 HC2.out, bel4 HB2.out (by omega)⟩ ?_
  rintro w3 ⟨hQ, hR, hB3⟩
  clear x0 x1 x2 x3 frx lx lx'
  have q0 := hQ.cell 0
  have q1 := hQ.cell 1
  have q2 := hQ.cell 2
  have q3 := hQ.cell 3
  simp at q0 q1 q2 q3
  have frq := hQ.free
  have r0 := hR.cell 0
  have r1 := hR.cell 1
  have r2 := hR.cell 2
  have r3 := hR.cell 3
  simp at r0 r1 r2 r3
  have frr := hR.free
  have lq := hQ.lt
  have lr := hR.lt
  have HQ := Lib.hid hQ
  have HR := Lib.hid hR
  have HB := Lib.hid hB3
  clear hQ hR hB3
  cases t1 <;> cases t2
  all_goals
    go_wp2_with fail
    go_region
    go_wp2_with fail
    all_goals
      have fq := (far4 (g' := w.heap.size + 1) (v0 := .int .u64 (wd Y 0 : Nat)) (v1 := .int .u64 (wd Y 1 : Nat)) (v2 := .int .u64 (wd Y 2 : Nat)) (v3 := .int .u64 (wd Y 3 : Nat)) (stored4 (v0 := .int .u64 (wd X 0 : Nat)) (v1 := .int .u64 (wd X 1 : Nat)) (v2 := .int .u64 (wd X 2 : Nat)) (v3 := .int .u64 (wd X 3 : Nat)) HQ.out) (by omega)).drew
      have fr := (stored4 (v0 := .int .u64 (wd Y 0 : Nat)) (v1 := .int .u64 (wd Y 1 : Nat)) (v2 := .int .u64 (wd Y 2 : Nat)) (v3 := .int .u64 (wd Y 3 : Nat)) (far4 (g' := w.heap.size) (v0 := .int .u64 (wd X 0 : Nat)) (v1 := .int .u64 (wd X 1 : Nat)) (v2 := .int .u64 (wd X 2 : Nat)) (v3 := .int .u64 (wd X 3 : Nat)) HR.out (by omega))).drew
      have a0 := fq.cell 0
      have a1 := fq.cell 1
      have a2 := fq.cell 2
      have a3 := fq.cell 3
      have b0 := fr.cell 0
      have b1 := fr.cell 1
      have b2 := fr.cell 2
      have b3 := fr.cell 3
      simp at a0 a1 a2 a3 b0 b1 b2 b3
  · exact bodyPost_ret (v := .tuple #[.agg #[.int .u64 (wd X 0 : Nat), .int .u64 (wd X 1 : Nat), .int .u64 (wd X 2 : Nat), .int .u64 (wd X 3 : Nat)], .agg #[.int .u64 (wd Y 0 : Nat), .int .u64 (wd Y 1 : Nat), .int .u64 (wd Y 2 : Nat), .int .u64 (wd Y 3 : Nat)], .bool false]) (by simp [results, Try.results35, go_sem, a0, a1, a2, a3, b0, b1, b2, b3]) rfl ⟨rfl, (bel4 (bel4 HB.out (by omega)) (by omega)).drew⟩
  · exact bodyPost_ret (v := .tuple #[.agg #[.int .u64 (wd X 0 : Nat), .int .u64 (wd X 1 : Nat), .int .u64 (wd X 2 : Nat), .int .u64 (wd X 3 : Nat)], .agg #[.int .u64 (wd Y 0 : Nat), .int .u64 (wd Y 1 : Nat), .int .u64 (wd Y 2 : Nat), .int .u64 (wd Y 3 : Nat)], .bool false]) (by simp [results, Try.results35, go_sem, a0, a1, a2, a3, b0, b1, b2, b3]) rfl ⟨rfl, (bel4 (bel4 HB.out (by omega)) (by omega)).drew⟩
  · exact bodyPost_ret (v := .tuple #[.agg #[.int .u64 (wd X 0 : Nat), .int .u64 (wd X 1 : Nat), .int .u64 (wd X 2 : Nat), .int .u64 (wd X 3 : Nat)], .agg #[.int .u64 (wd Y 0 : Nat), .int .u64 (wd Y 1 : Nat), .int .u64 (wd Y 2 : Nat), .int .u64 (wd Y 3 : Nat)], .bool false]) (by simp [results, Try.results35, go_sem, a0, a1, a2, a3, b0, b1, b2, b3]) rfl ⟨rfl, (bel4 (bel4 HB.out (by omega)) (by omega)).drew⟩
  · exact bodyPost_ret (v := .tuple #[.agg #[.int .u64 (wd X 0 : Nat), .int .u64 (wd X 1 : Nat), .int .u64 (wd X 2 : Nat), .int .u64 (wd X 3 : Nat)], .agg #[.int .u64 (wd Y 0 : Nat), .int .u64 (wd Y 1 : Nat), .int .u64 (wd Y 2 : Nat), .int .u64 (wd Y 3 : Nat)], .bool true]) (by simp [results, Try.results35, go_sem, a0, a1, a2, a3, b0, b1, b2, b3]) rfl ⟨rfl, (bel4 (bel4 HB.out (by omega)) (by omega)).drew⟩
theorem pair_any (c l : Nat) (w : World) (hc : c < 4294967296) (hl : l < 4294967296) :
    Calls Try.prog 35 #[.int .u32 c, .int .u32 l] w (BRet (.tuple #[.agg #[.int .u64 (wd (xN c) 0 : Nat), .int .u64 (wd (xN c) 1 : Nat), .int .u64 (wd (xN c) 2 : Nat), .int .u64 (wd (xN c) 3 : Nat)], .agg #[.int .u64 (wd (xN l) 0 : Nat), .int .u64 (wd (xN l) 1 : Nat), .int .u64 (wd (xN l) 2 : Nat), .int .u64 (wd (xN l) 3 : Nat)], .bool (!badB c && !badB l)]) w) :=
  pair_case c l (xN c) (xN l) (xE c) (xE l) _ _ w (Lib.hid fun w => expand_any c w hc) (Lib.hid fun w => expand_any l w hl) (xE_test c) (xE_test l)

def workN (c : Nat) : Nat := if badB c then 0 else w256 / (xN c + 1)
theorem xN_small (c : Nat) : xN c + 1 < w256 := by
  have hl := xN_lt c
  cases hb : badB c
  · have hv := (good_val hb).1
    by_cases h3 : 3 < expB c
    · rw [if_pos (by omega)] at hv
      obtain ⟨k, hk⟩ : ∃ k, expB c - 3 = k + 1 := ⟨expB c - 4, by omega⟩
      rw [hk, show grow (manB c) (k + 1) = grow (manB c) k * 256 from by unfold grow; rw [Nat.pow_succ, Nat.mul_assoc]] at hv
      generalize grow (manB c) k = g at hv
      rw [w256_eq] at hl ⊢
      omega
    · have hm := manB_lt c
      have : xN c ≤ manB c := by
        rw [hv]
        by_cases he : 3 ≤ expB c
        · rw [if_pos he, show expB c - 3 = 0 from by omega, grow_zero]; exact Nat.le_refl _
        · rw [if_neg he]; exact Nat.div_le_self _ _
      rw [w256_eq]; omega
  · unfold xN; rw [hb, if_pos rfl, w256_eq]; decide

set_option maxRecDepth 100000 in
set_option maxHeartbeats 8000000 in
theorem work_case (c T N M q r F : Nat) (ov1 ov2 : Bool) (w : World)
    (K1 : Hid (∀ w, Calls Try.prog 10 #[.int .u32 c] w (BRet (.tuple #[.agg #[.int .u64 (wd T 0 : Nat), .int .u64 (wd T 1 : Nat), .int .u64 (wd T 2 : Nat), .int .u64 (wd T 3 : Nat)], .int .i64 0]) w)))
    (K2 : Hid (∀ w, Calls Try.prog 23 #[.int .u64 1] w (BRet (.agg #[.int .u64 1, .int .u64 0, .int .u64 0, .int .u64 0]) w)))
    (K3 : Hid (∀ w, Calls Try.prog 22 #[.agg #[.int .u64 (wd T 0 : Nat), .int .u64 (wd T 1 : Nat), .int .u64 (wd T 2 : Nat), .int .u64 (wd T 3 : Nat)], .agg #[.int .u64 1, .int .u64 0, .int .u64 0, .int .u64 0]] w (BRet (.tuple #[.agg #[.int .u64 (wd N 0 : Nat), .int .u64 (wd N 1 : Nat), .int .u64 (wd N 2 : Nat), .int .u64 (wd N 3 : Nat)], .bool ov1]) w)))
    (K4 : Hid (∀ w, Calls Try.prog 25 #[.agg #[.int .u64 (wd T 0 : Nat), .int .u64 (wd T 1 : Nat), .int .u64 (wd T 2 : Nat), .int .u64 (wd T 3 : Nat)]] w (BRet (.agg #[.int .u64 (wd M 0 : Nat), .int .u64 (wd M 1 : Nat), .int .u64 (wd M 2 : Nat), .int .u64 (wd M 3 : Nat)]) w)))
    (K5 : Hid (∀ w, Calls Try.prog 24 #[.agg #[.int .u64 (wd M 0 : Nat), .int .u64 (wd M 1 : Nat), .int .u64 (wd M 2 : Nat), .int .u64 (wd M 3 : Nat)], .agg #[.int .u64 (wd N 0 : Nat), .int .u64 (wd N 1 : Nat), .int .u64 (wd N 2 : Nat), .int .u64 (wd N 3 : Nat)]] w (BRet (.tuple #[.agg #[.int .u64 (wd q 0 : Nat), .int .u64 (wd q 1 : Nat), .int .u64 (wd q 2 : Nat), .int .u64 (wd q 3 : Nat)], .agg #[.int .u64 (wd r 0 : Nat), .int .u64 (wd r 1 : Nat), .int .u64 (wd r 2 : Nat), .int .u64 (wd r 3 : Nat)], .int .i64 0]) w)))
    (K6 : Hid (∀ w, Calls Try.prog 22 #[.agg #[.int .u64 (wd q 0 : Nat), .int .u64 (wd q 1 : Nat), .int .u64 (wd q 2 : Nat), .int .u64 (wd q 3 : Nat)], .agg #[.int .u64 1, .int .u64 0, .int .u64 0, .int .u64 0]] w (BRet (.tuple #[.agg #[.int .u64 (wd F 0 : Nat), .int .u64 (wd F 1 : Nat), .int .u64 (wd F 2 : Nat), .int .u64 (wd F 3 : Nat)], .bool ov2]) w))) :
    Calls Try.prog 17 #[.int .u32 c] w (BRet (.agg #[.int .u64 (wd F 0 : Nat), .int .u64 (wd F 1 : Nat), .int .u64 (wd F 2 : Nat), .int .u64 (wd F 3 : Nat)]) w) := by
  go_enter Try.func17, Try.ntmps17
  go_wp2_with fail
  refine (K1.out _).mono ?_
  rintro e w1 ⟨rfl, hb1⟩
  have Ho1 := Lib.hid ((show IsBlk _ (w.heap.size) 25 #[.int .u64 0, .int .u64 0, .int .u64 0, .int .u64 0] from (IsBlk.newAt _ _ rfl)).after hb1)
  have HB1 := Lib.hid ((show Below w.heap.size w _ from by repeat' (first | exact Below.refl _ _ | refine bel_drewN ?_ _ | refine Below.drew ?_ | refine Below.alloc ?_ ?_ _ | refine Below.setCell ?_ ?_ _ | exact Nat.le_refl _ | (simp; done) | (simp; omega) | assumption)).trans (hb1.mono (by simp <;> omega)))
  clear hb1
  go_wp2_with fail
  refine (K2.out _).mono ?_
  rintro e w2 ⟨rfl, hb2⟩
  have Ho2 := Lib.hid ((Ho1.out.alloc _).after hb2)
  have Ht2 := Lib.hid ((show IsBlk _ (w1.heap.size) 25 #[.int .u64 (wd T 0 : Nat), .int .u64 (wd T 1 : Nat), .int .u64 (wd T 2 : Nat), .int .u64 (wd T 3 : Nat)] from (IsBlk.newAt _ _ rfl)).after hb2)
  have HB2 := Lib.hid (bel_on (bel_al HB1.out _) hb2)
  clear hb2
  clear Ho1 HB1
  have ht := Ht2.out
  have vt0 := ht.cell 0
  have vt1 := ht.cell 1
  have vt2 := ht.cell 2
  have vt3 := ht.cell 3
  simp at vt0 vt1 vt2 vt3
  have frvt := ht.free
  have lvt := ht.lt
  clear ht
  go_wp2_with fail
  refine (K3.out _).mono ?_
  rintro e w3 ⟨rfl, hb3⟩
  have Ho3 := Lib.hid ((Ho2.out.alloc _).after hb3)
  have Ht3 := Lib.hid ((Ht2.out.alloc _).after hb3)
  have Hi3 := Lib.hid ((show IsBlk _ (w2.heap.size) 25 #[.int .u64 1, .int .u64 0, .int .u64 0, .int .u64 0] from (IsBlk.newAt _ _ rfl)).after hb3)
  have HB3 := Lib.hid (bel_on (bel_al HB2.out _) hb3)
  clear vt0 vt1 vt2 vt3 frvt lvt
  clear hb3
  clear Ho2 Ht2 HB2
  have ht := Ht3.out
  have vt0 := ht.cell 0
  have vt1 := ht.cell 1
  have vt2 := ht.cell 2
  have vt3 := ht.cell 3
  simp at vt0 vt1 vt2 vt3
  have frvt := ht.free
  have lvt := ht.lt
  clear ht
  have hi := Hi3.out
  have vi0 := hi.cell 0
  have vi1 := hi.cell 1
  have vi2 := hi.cell 2
  have vi3 := hi.cell 3
  simp at vi0 vi1 vi2 vi3
  have frvi := hi.free
  have lvi := hi.lt
  clear hi
  go_upto_region 6 with fail
  refine wp_gen (fun w' => IsBlk w' w.heap.size 25 #[.int .u64 0, .int .u64 0, .int .u64 0, .int .u64 0] ∧ IsBlk w' w1.heap.size 25 #[.int .u64 (wd T 0 : Nat), .int .u64 (wd T 1 : Nat), .int .u64 (wd T 2 : Nat), .int .u64 (wd T 3 : Nat)] ∧ IsBlk w' w2.heap.size 25 #[.int .u64 1, .int .u64 0, .int .u64 0, .int .u64 0] ∧ IsBlk w' w3.heap.size 25 #[.int .u64 (wd N 0 : Nat), .int .u64 (wd N 1 : Nat), .int .u64 (wd N 2 : Nat), .int .u64 (wd N 3 : Nat)] ∧ Below w.heap.size w w')
    ⟨Ho3.out.alloc _, Ht3.out.alloc _, Hi3.out.alloc _, IsBlk.newAt _ _ rfl, bel_al HB3.out _⟩ ?_
  rintro w6 ⟨hO, hT, hI, hN, hB⟩
  generalize w3.heap.size = gn at *
  generalize w2.heap.size = gi at *
  generalize w1.heap.size = gt at *
  have HO := Lib.hid hO
  have HT := Lib.hid hT
  have HI := Lib.hid hI
  have HN := Lib.hid hN
  have HB := Lib.hid hB
  have hol := hO.lt
  clear hO hT hI hN hB
  go_cut [8, 9] (fun s8 s9 wx => ∃ g8 g9 : Nat, s8 = .pointer (some ⟨g8, 0, none⟩) ∧ s9 = .pointer (some ⟨g9, 0, none⟩) ∧ w6.heap.size ≤ g8 ∧ Ext w6 wx ∧ IsBlk wx g8 25 #[.int .u64 (wd q 0 : Nat), .int .u64 (wd q 1 : Nat), .int .u64 (wd q 2 : Nat), .int .u64 (wd q 3 : Nat)])
  case first =>
    refine Held.start 13 (Ext w6) (by kernel_rfl) rfl (Below.refl _ _).drew ?_
    (first | (refine Held.skip (i := 0) rfl (by kernel_rfl) (fun _ _ _ h => h) rfl ?_; (try (try simp only [Act.put, List.setIfInBounds_toArray, List.set_cons_zero, List.set_cons_succ]))) | (refine Held.take (i := 0) (v := ?_) rfl (by kernel_rfl) (fun _ _ _ h => h) rfl ?_ ?_; rotate_left; (intro w hS; have hE := hS; have hx := HT.out.after hE; have x0 := hx.cell 0; have x1 := hx.cell 1; have x2 := hx.cell 2; have x3 := hx.cell 3; have hy := HN.out.after hE; have y0 := hy.cell 0; have y1 := hy.cell 1; have y2 := hy.cell 2; have y3 := hy.cell 3; simp at x0 x1 x2 x3 y0 y1 y2 y3; go_simp; with_reducible rfl); (try (try simp only [Act.put, List.setIfInBounds_toArray, List.set_cons_zero, List.set_cons_succ]))))
    (first | (refine Held.skip (i := 2) rfl (by kernel_rfl) (fun _ _ _ h => h) rfl ?_; (try (try simp only [Act.put, List.setIfInBounds_toArray, List.set_cons_zero, List.set_cons_succ]))) | (refine Held.take (i := 2) (v := ?_) rfl (by kernel_rfl) (fun _ _ _ h => h) rfl ?_ ?_; rotate_left; (intro w hS; have hE := hS; have hx := HT.out.after hE; have x0 := hx.cell 0; have x1 := hx.cell 1; have x2 := hx.cell 2; have x3 := hx.cell 3; have hy := HN.out.after hE; have y0 := hy.cell 0; have y1 := hy.cell 1; have y2 := hy.cell 2; have y3 := hy.cell 3; simp at x0 x1 x2 x3 y0 y1 y2 y3; go_simp; with_reducible rfl); (try (try simp only [Act.put, List.setIfInBounds_toArray, List.set_cons_zero, List.set_cons_succ]))))
    refine Held.three (i := 1) (j := 8) (k := 9) (by kernel_rfl) ?_ ?_ ?_
    · refine HeldOp.call (i := 1) (f := ?_) (args := ?_) rfl rfl ?_ ?_
      rotate_left 2
      · (intro w hS; go_simp; (first | with_reducible rfl | (refine ⟨?_, ?_⟩ <;> with_reducible rfl)))
      intro wcx hSc
      (with_reducible refine (K4.out _).mono ?_)
      rintro e vc ⟨rfl, hb⟩
      refine ⟨_, rfl, (Ext w6), bel_on hSc hb, fun w h => h, ?_⟩
      clear hSc hb
      (try simp only [Act.put, List.setIfInBounds_toArray, List.set_cons_zero, List.set_cons_succ])
      refine Held.three (i := 3) (j := 8) (k := 9) (by kernel_rfl) ?_ ?_ ?_
      · refine HeldOp.call (i := 3) (f := ?_) (args := ?_) rfl rfl ?_ ?_
        rotate_left 2
        · (intro w hS; go_simp; (first | with_reducible rfl | (refine ⟨?_, ?_⟩ <;> with_reducible rfl)))
        intro wcx hSc
        (with_reducible refine (K5.out _).mono ?_)
        rintro e vc ⟨rfl, hb⟩
        refine ⟨_, rfl, (Ext w6), bel_on hSc hb, fun w h => h, ?_⟩
        clear hSc hb
        (try simp only [Act.put, List.setIfInBounds_toArray, List.set_cons_zero, List.set_cons_succ])
        (first | (refine Held.skip (i := 4) rfl (by kernel_rfl) (fun _ _ _ h => h) rfl ?_; (try (try simp only [Act.put, List.setIfInBounds_toArray, List.set_cons_zero, List.set_cons_succ]))) | (refine Held.take (i := 4) (v := ?_) rfl (by kernel_rfl) (fun _ _ _ h => h) rfl ?_ ?_; rotate_left; (intro w hS; have hE := hS; have hx := HT.out.after hE; have x0 := hx.cell 0; have x1 := hx.cell 1; have x2 := hx.cell 2; have x3 := hx.cell 3; have hy := HN.out.after hE; have y0 := hy.cell 0; have y1 := hy.cell 1; have y2 := hy.cell 2; have y3 := hy.cell 3; simp at x0 x1 x2 x3 y0 y1 y2 y3; go_simp; with_reducible rfl); (try (try simp only [Act.put, List.setIfInBounds_toArray, List.set_cons_zero, List.set_cons_succ]))))
        (first | (refine Held.skip (i := 5) rfl (by kernel_rfl) (fun _ _ _ h => h) rfl ?_; (try (try simp only [Act.put, List.setIfInBounds_toArray, List.set_cons_zero, List.set_cons_succ]))) | (refine Held.take (i := 5) (v := ?_) rfl (by kernel_rfl) (fun _ _ _ h => h) rfl ?_ ?_; rotate_left; (intro w hS; have hE := hS; have hx := HT.out.after hE; have x0 := hx.cell 0; have x1 := hx.cell 1; have x2 := hx.cell 2; have x3 := hx.cell 3; have hy := HN.out.after hE; have y0 := hy.cell 0; have y1 := hy.cell 1; have y2 := hy.cell 2; have y3 := hy.cell 3; simp at x0 x1 x2 x3 y0 y1 y2 y3; go_simp; with_reducible rfl); (try (try simp only [Act.put, List.setIfInBounds_toArray, List.set_cons_zero, List.set_cons_succ]))))
        (first | (refine Held.skip (i := 6) rfl (by kernel_rfl) (fun _ _ _ h => h) rfl ?_; (try (try simp only [Act.put, List.setIfInBounds_toArray, List.set_cons_zero, List.set_cons_succ]))) | (refine Held.take (i := 6) (v := ?_) rfl (by kernel_rfl) (fun _ _ _ h => h) rfl ?_ ?_; rotate_left; (intro w hS; have hE := hS; have hx := HT.out.after hE; have x0 := hx.cell 0; have x1 := hx.cell 1; have x2 := hx.cell 2; have x3 := hx.cell 3; have hy := HN.out.after hE; have y0 := hy.cell 0; have y1 := hy.cell 1; have y2 := hy.cell 2; have y3 := hy.cell 3; simp at x0 x1 x2 x3 y0 y1 y2 y3; go_simp; with_reducible rfl); (try (try simp only [Act.put, List.setIfInBounds_toArray, List.set_cons_zero, List.set_cons_succ]))))
        (first | (refine Held.skip (i := 7) rfl (by kernel_rfl) (fun _ _ _ h => h) rfl ?_; (try (try simp only [Act.put, List.setIfInBounds_toArray, List.set_cons_zero, List.set_cons_succ]))) | (refine Held.take (i := 7) (v := ?_) rfl (by kernel_rfl) (fun _ _ _ h => h) rfl ?_ ?_; rotate_left; (intro w hS; have hE := hS; have hx := HT.out.after hE; have x0 := hx.cell 0; have x1 := hx.cell 1; have x2 := hx.cell 2; have x3 := hx.cell 3; have hy := HN.out.after hE; have y0 := hy.cell 0; have y1 := hy.cell 1; have y2 := hy.cell 2; have y3 := hy.cell 3; simp at x0 x1 x2 x3 y0 y1 y2 y3; go_simp; with_reducible rfl); (try (try simp only [Act.put, List.setIfInBounds_toArray, List.set_cons_zero, List.set_cons_succ]))))
        refine Held.two (i := 8) (j := 9) (by kernel_rfl) ?_ ?_
        · refine HeldOp.step (i := 8) rfl rfl ?_
          intro wcx hSc
          have hg8 : w6.heap.size ≤ wcx.heap.size := Below.size (hSc)
          refine ⟨.pointer (some ⟨wcx.heap.size, 0, none⟩), wcx.alloc (.cells #[.int .u64 0, .int .u64 0, .int .u64 0, .int .u64 0] 25), .inl (by go_simp), (fun w' => Ext w6 w' ∧ Four w' wcx.heap.size), ⟨Below.alloc (hSc) (Below.size (hSc)) _, ⟨_, _, _, _, IsBlk.new _ _ _⟩⟩, fun w h => h.1, ?_⟩
          generalize wcx.heap.size = g8 at *
          clear hSc
          (try simp only [Act.put, List.setIfInBounds_toArray, List.set_cons_zero, List.set_cons_succ])
          refine Held.one (i := 9) (by kernel_rfl) ?_
          · refine HeldOp.step (i := 9) rfl rfl ?_
            intro wcx hSc
            have hg9 : w6.heap.size ≤ wcx.heap.size := Below.size (hSc.1)
            have hn9 : g8 < wcx.heap.size := Four.lt (hSc.2)
            refine ⟨.pointer (some ⟨wcx.heap.size, 0, none⟩), wcx.alloc (.cells #[.int .u64 0, .int .u64 0, .int .u64 0, .int .u64 0] 25), .inl (by go_simp), (fun w' => Ext w6 w' ∧ Four w' g8 ∧ Four w' wcx.heap.size), ⟨Below.alloc (hSc.1) (Below.size (hSc.1)) _, Four.alloc (hSc.2) _, ⟨_, _, _, _, IsBlk.new _ _ _⟩⟩, fun w h => ⟨h.1, h.2.1⟩, ?_⟩
            generalize wcx.heap.size = g9 at *
            clear hSc
            (try simp only [Act.put, List.setIfInBounds_toArray, List.set_cons_zero, List.set_cons_succ])
            refine Held.one (i := 10) (by kernel_rfl) ?_
            · refine HeldOp.step (i := 10) rfl rfl ?_
              intro wcx hSc
              obtain ⟨c0, c1, c2, c3, hblk⟩ := hSc.2.1
              refine ⟨undef, ((((wcx.setCell ⟨g8, 0, none⟩ (.int .u64 (wd q 0 : Nat))).setCell ⟨g8, 1, none⟩ (.int .u64 (wd q 1 : Nat))).setCell ⟨g8, 2, none⟩ (.int .u64 (wd q 2 : Nat))).setCell ⟨g8, 3, none⟩ (.int .u64 (wd q 3 : Nat))), .inr ⟨?_, rfl⟩, (fun w' => Ext w6 w' ∧ IsBlk w' g8 25 #[.int .u64 (wd q 0 : Nat), .int .u64 (wd q 1 : Nat), .int .u64 (wd q 2 : Nat), .int .u64 (wd q 3 : Nat)] ∧ Four w' g9), ⟨bel4 hSc.1 hg8, stored4 hblk, Four.far4 (hSc.2.2) (by omega)⟩, fun w h => ⟨h.1, ⟨_, _, _, _, h.2.1⟩, h.2.2⟩, ?_⟩
              · have b0 := hblk.cell 0
                have b1 := hblk.cell 1
                have b2 := hblk.cell 2
                have b3 := hblk.cell 3
                simp at b0 b1 b2 b3
                have frb := hblk.free
                have ltb := hblk.lt
                go_simp
              clear hSc hblk
              (try simp only [Act.put, List.setIfInBounds_toArray, List.set_cons_zero, List.set_cons_succ])
              refine Held.one (i := 11) (by kernel_rfl) ?_
              · refine HeldOp.step (i := 11) rfl rfl ?_
                intro wcx hSc
                obtain ⟨c0, c1, c2, c3, hblk⟩ := hSc.2.2
                refine ⟨undef, ((((wcx.setCell ⟨g9, 0, none⟩ (.int .u64 (wd r 0 : Nat))).setCell ⟨g9, 1, none⟩ (.int .u64 (wd r 1 : Nat))).setCell ⟨g9, 2, none⟩ (.int .u64 (wd r 2 : Nat))).setCell ⟨g9, 3, none⟩ (.int .u64 (wd r 3 : Nat))), .inr ⟨?_, rfl⟩, (fun w' => Ext w6 w' ∧ IsBlk w' g8 25 #[.int .u64 (wd q 0 : Nat), .int .u64 (wd q 1 : Nat), .int .u64 (wd q 2 : Nat), .int .u64 (wd q 3 : Nat)] ∧ IsBlk w' g9 25 #[.int .u64 (wd r 0 : Nat), .int .u64 (wd r 1 : Nat), .int .u64 (wd r 2 : Nat), .int .u64 (wd r 3 : Nat)]), ⟨bel4 hSc.1 hg9, far4 (hSc.2.1) (by omega), stored4 hblk⟩, fun w h => ⟨h.1, h.2.1, ⟨_, _, _, _, h.2.2⟩⟩, ?_⟩
                · have b0 := hblk.cell 0
                  have b1 := hblk.cell 1
                  have b2 := hblk.cell 2
                  have b3 := hblk.cell 3
                  simp at b0 b1 b2 b3
                  have frb := hblk.free
                  have ltb := hblk.lt
                  go_simp
                clear hSc hblk
                (try simp only [Act.put, List.setIfInBounds_toArray, List.set_cons_zero, List.set_cons_succ])
                (first | (refine Held.skip (i := 12) rfl (by kernel_rfl) (fun _ _ _ h => h) rfl ?_; (try (try simp only [Act.put, List.setIfInBounds_toArray, List.set_cons_zero, List.set_cons_succ]))) | (refine Held.take (i := 12) (v := ?_) rfl (by kernel_rfl) (fun _ _ _ h => h) rfl ?_ ?_; rotate_left; (intro w hS; have hE := hS.1; have hx := HT.out.after hE; have x0 := hx.cell 0; have x1 := hx.cell 1; have x2 := hx.cell 2; have x3 := hx.cell 3; have hy := HN.out.after hE; have y0 := hy.cell 0; have y1 := hy.cell 1; have y2 := hy.cell 2; have y3 := hy.cell 3; simp at x0 x1 x2 x3 y0 y1 y2 y3; go_simp; with_reducible rfl); (try (try simp only [Act.put, List.setIfInBounds_toArray, List.set_cons_zero, List.set_cons_succ]))))
                refine Held.done (by kernel_rfl) ?_
                intro wz hz
                have hne : g8 ≠ g9 := by omega
                go_wp2_with fail
                go_meet
                exact ⟨g8, g9, rfl, rfl, hg8, hz.1, hz.2.1⟩
        · refine HeldOp.step (i := 9) rfl rfl ?_
          intro wcx hSc
          have hg9 : w6.heap.size ≤ wcx.heap.size := Below.size (hSc)
          refine ⟨.pointer (some ⟨wcx.heap.size, 0, none⟩), wcx.alloc (.cells #[.int .u64 0, .int .u64 0, .int .u64 0, .int .u64 0] 25), .inl (by go_simp), (fun w' => Ext w6 w' ∧ Four w' wcx.heap.size), ⟨Below.alloc (hSc) (Below.size (hSc)) _, ⟨_, _, _, _, IsBlk.new _ _ _⟩⟩, fun w h => h.1, ?_⟩
          generalize wcx.heap.size = g9 at *
          clear hSc
          (try simp only [Act.put, List.setIfInBounds_toArray, List.set_cons_zero, List.set_cons_succ])
          refine Held.one (i := 8) (by kernel_rfl) ?_
          · refine HeldOp.step (i := 8) rfl rfl ?_
            intro wcx hSc
            have hg8 : w6.heap.size ≤ wcx.heap.size := Below.size (hSc.1)
            have hn8 : g9 < wcx.heap.size := Four.lt (hSc.2)
            refine ⟨.pointer (some ⟨wcx.heap.size, 0, none⟩), wcx.alloc (.cells #[.int .u64 0, .int .u64 0, .int .u64 0, .int .u64 0] 25), .inl (by go_simp), (fun w' => Ext w6 w' ∧ Four w' wcx.heap.size ∧ Four w' g9), ⟨Below.alloc (hSc.1) (Below.size (hSc.1)) _, ⟨_, _, _, _, IsBlk.new _ _ _⟩, Four.alloc (hSc.2) _⟩, fun w h => ⟨h.1, h.2.2⟩, ?_⟩
            generalize wcx.heap.size = g8 at *
            clear hSc
            (try simp only [Act.put, List.setIfInBounds_toArray, List.set_cons_zero, List.set_cons_succ])
            refine Held.one (i := 10) (by kernel_rfl) ?_
            · refine HeldOp.step (i := 10) rfl rfl ?_
              intro wcx hSc
              obtain ⟨c0, c1, c2, c3, hblk⟩ := hSc.2.1
              refine ⟨undef, ((((wcx.setCell ⟨g8, 0, none⟩ (.int .u64 (wd q 0 : Nat))).setCell ⟨g8, 1, none⟩ (.int .u64 (wd q 1 : Nat))).setCell ⟨g8, 2, none⟩ (.int .u64 (wd q 2 : Nat))).setCell ⟨g8, 3, none⟩ (.int .u64 (wd q 3 : Nat))), .inr ⟨?_, rfl⟩, (fun w' => Ext w6 w' ∧ IsBlk w' g8 25 #[.int .u64 (wd q 0 : Nat), .int .u64 (wd q 1 : Nat), .int .u64 (wd q 2 : Nat), .int .u64 (wd q 3 : Nat)] ∧ Four w' g9), ⟨bel4 hSc.1 hg8, stored4 hblk, Four.far4 (hSc.2.2) (by omega)⟩, fun w h => ⟨h.1, ⟨_, _, _, _, h.2.1⟩, h.2.2⟩, ?_⟩
              · have b0 := hblk.cell 0
                have b1 := hblk.cell 1
                have b2 := hblk.cell 2
                have b3 := hblk.cell 3
                simp at b0 b1 b2 b3
                have frb := hblk.free
                have ltb := hblk.lt
                go_simp
              clear hSc hblk
              (try simp only [Act.put, List.setIfInBounds_toArray, List.set_cons_zero, List.set_cons_succ])
              refine Held.one (i := 11) (by kernel_rfl) ?_
              · refine HeldOp.step (i := 11) rfl rfl ?_
                intro wcx hSc
                obtain ⟨c0, c1, c2, c3, hblk⟩ := hSc.2.2
                refine ⟨undef, ((((wcx.setCell ⟨g9, 0, none⟩ (.int .u64 (wd r 0 : Nat))).setCell ⟨g9, 1, none⟩ (.int .u64 (wd r 1 : Nat))).setCell ⟨g9, 2, none⟩ (.int .u64 (wd r 2 : Nat))).setCell ⟨g9, 3, none⟩ (.int .u64 (wd r 3 : Nat))), .inr ⟨?_, rfl⟩, (fun w' => Ext w6 w' ∧ IsBlk w' g8 25 #[.int .u64 (wd q 0 : Nat), .int .u64 (wd q 1 : Nat), .int .u64 (wd q 2 : Nat), .int .u64 (wd q 3 : Nat)] ∧ IsBlk w' g9 25 #[.int .u64 (wd r 0 : Nat), .int .u64 (wd r 1 : Nat), .int .u64 (wd r 2 : Nat), .int .u64 (wd r 3 : Nat)]), ⟨bel4 hSc.1 hg9, far4 (hSc.2.1) (by omega), stored4 hblk⟩, fun w h => ⟨h.1, h.2.1, ⟨_, _, _, _, h.2.2⟩⟩, ?_⟩
                · have b0 := hblk.cell 0
                  have b1 := hblk.cell 1
                  have b2 := hblk.cell 2
                  have b3 := hblk.cell 3
                  simp at b0 b1 b2 b3
                  have frb := hblk.free
                  have ltb := hblk.lt
                  go_simp
                clear hSc hblk
                (try simp only [Act.put, List.setIfInBounds_toArray, List.set_cons_zero, List.set_cons_succ])
                (first | (refine Held.skip (i := 12) rfl (by kernel_rfl) (fun _ _ _ h => h) rfl ?_; (try (try simp only [Act.put, List.setIfInBounds_toArray, List.set_cons_zero, List.set_cons_succ]))) | (refine Held.take (i := 12) (v := ?_) rfl (by kernel_rfl) (fun _ _ _ h => h) rfl ?_ ?_; rotate_left; (intro w hS; have hE := hS.1; have hx := HT.out.after hE; have x0 := hx.cell 0; have x1 := hx.cell 1; have x2 := hx.cell 2; have x3 := hx.cell 3; have hy := HN.out.after hE; have y0 := hy.cell 0; have y1 := hy.cell 1; have y2 := hy.cell 2; have y3 := hy.cell 3; simp at x0 x1 x2 x3 y0 y1 y2 y3; go_simp; with_reducible rfl); (try (try simp only [Act.put, List.setIfInBounds_toArray, List.set_cons_zero, List.set_cons_succ]))))
                refine Held.done (by kernel_rfl) ?_
                intro wz hz
                have hne : g8 ≠ g9 := by omega
                go_wp2_with fail
                go_meet
                exact ⟨g8, g9, rfl, rfl, hg8, hz.1, hz.2.1⟩
      · refine HeldOp.step (i := 8) rfl rfl ?_
        intro wcx hSc
        have hg8 : w6.heap.size ≤ wcx.heap.size := Below.size (hSc)
        refine ⟨.pointer (some ⟨wcx.heap.size, 0, none⟩), wcx.alloc (.cells #[.int .u64 0, .int .u64 0, .int .u64 0, .int .u64 0] 25), .inl (by go_simp), (fun w' => Ext w6 w' ∧ Four w' wcx.heap.size), ⟨Below.alloc (hSc) (Below.size (hSc)) _, ⟨_, _, _, _, IsBlk.new _ _ _⟩⟩, fun w h => h.1, ?_⟩
        generalize wcx.heap.size = g8 at *
        clear hSc
        (try simp only [Act.put, List.setIfInBounds_toArray, List.set_cons_zero, List.set_cons_succ])
        refine Held.two (i := 3) (j := 9) (by kernel_rfl) ?_ ?_
        · refine HeldOp.call (i := 3) (f := ?_) (args := ?_) rfl rfl ?_ ?_
          rotate_left 2
          · (intro w hS; go_simp; (first | with_reducible rfl | (refine ⟨?_, ?_⟩ <;> with_reducible rfl)))
          intro wcx hSc
          (with_reducible refine (K5.out _).mono ?_)
          rintro e vc ⟨rfl, hb⟩
          refine ⟨_, rfl, (fun w' => Ext w6 w' ∧ Four w' g8), ⟨bel_on hSc.1 hb, hSc.2.on hb⟩, fun w h => h, ?_⟩
          clear hSc hb
          (try simp only [Act.put, List.setIfInBounds_toArray, List.set_cons_zero, List.set_cons_succ])
          (first | (refine Held.skip (i := 4) rfl (by kernel_rfl) (fun _ _ _ h => h) rfl ?_; (try (try simp only [Act.put, List.setIfInBounds_toArray, List.set_cons_zero, List.set_cons_succ]))) | (refine Held.take (i := 4) (v := ?_) rfl (by kernel_rfl) (fun _ _ _ h => h) rfl ?_ ?_; rotate_left; (intro w hS; have hE := hS.1; have hx := HT.out.after hE; have x0 := hx.cell 0; have x1 := hx.cell 1; have x2 := hx.cell 2; have x3 := hx.cell 3; have hy := HN.out.after hE; have y0 := hy.cell 0; have y1 := hy.cell 1; have y2 := hy.cell 2; have y3 := hy.cell 3; simp at x0 x1 x2 x3 y0 y1 y2 y3; go_simp; with_reducible rfl); (try (try simp only [Act.put, List.setIfInBounds_toArray, List.set_cons_zero, List.set_cons_succ]))))
          (first | (refine Held.skip (i := 5) rfl (by kernel_rfl) (fun _ _ _ h => h) rfl ?_; (try (try simp only [Act.put, List.setIfInBounds_toArray, List.set_cons_zero, List.set_cons_succ]))) | (refine Held.take (i := 5) (v := ?_) rfl (by kernel_rfl) (fun _ _ _ h => h) rfl ?_ ?_; rotate_left; (intro w hS; have hE := hS.1; have hx := HT.out.after hE; have x0 := hx.cell 0; have x1 := hx.cell 1; have x2 := hx.cell 2; have x3 := hx.cell 3; have hy := HN.out.after hE; have y0 := hy.cell 0; have y1 := hy.cell 1; have y2 := hy.cell 2; have y3 := hy.cell 3; simp at x0 x1 x2 x3 y0 y1 y2 y3; go_simp; with_reducible rfl); (try (try simp only [Act.put, List.setIfInBounds_toArray, List.set_cons_zero, List.set_cons_succ]))))
          (first | (refine Held.skip (i := 6) rfl (by kernel_rfl) (fun _ _ _ h => h) rfl ?_; (try (try simp only [Act.put, List.setIfInBounds_toArray, List.set_cons_zero, List.set_cons_succ]))) | (refine Held.take (i := 6) (v := ?_) rfl (by kernel_rfl) (fun _ _ _ h => h) rfl ?_ ?_; rotate_left; (intro w hS; have hE := hS.1; have hx := HT.out.after hE; have x0 := hx.cell 0; have x1 := hx.cell 1; have x2 := hx.cell 2; have x3 := hx.cell 3; have hy := HN.out.after hE; have y0 := hy.cell 0; have y1 := hy.cell 1; have y2 := hy.cell 2; have y3 := hy.cell 3; simp at x0 x1 x2 x3 y0 y1 y2 y3; go_simp; with_reducible rfl); (try (try simp only [Act.put, List.setIfInBounds_toArray, List.set_cons_zero, List.set_cons_succ]))))
          (first | (refine Held.skip (i := 7) rfl (by kernel_rfl) (fun _ _ _ h => h) rfl ?_; (try (try simp only [Act.put, List.setIfInBounds_toArray, List.set_cons_zero, List.set_cons_succ]))) | (refine Held.take (i := 7) (v := ?_) rfl (by kernel_rfl) (fun _ _ _ h => h) rfl ?_ ?_; rotate_left; (intro w hS; have hE := hS.1; have hx := HT.out.after hE; have x0 := hx.cell 0; have x1 := hx.cell 1; have x2 := hx.cell 2; have x3 := hx.cell 3; have hy := HN.out.after hE; have y0 := hy.cell 0; have y1 := hy.cell 1; have y2 := hy.cell 2; have y3 := hy.cell 3; simp at x0 x1 x2 x3 y0 y1 y2 y3; go_simp; with_reducible rfl); (try (try simp only [Act.put, List.setIfInBounds_toArray, List.set_cons_zero, List.set_cons_succ]))))
          refine Held.one (i := 9) (by kernel_rfl) ?_
          · refine HeldOp.step (i := 9) rfl rfl ?_
            intro wcx hSc
            have hg9 : w6.heap.size ≤ wcx.heap.size := Below.size (hSc.1)
            have hn9 : g8 < wcx.heap.size := Four.lt (hSc.2)
            refine ⟨.pointer (some ⟨wcx.heap.size, 0, none⟩), wcx.alloc (.cells #[.int .u64 0, .int .u64 0, .int .u64 0, .int .u64 0] 25), .inl (by go_simp), (fun w' => Ext w6 w' ∧ Four w' g8 ∧ Four w' wcx.heap.size), ⟨Below.alloc (hSc.1) (Below.size (hSc.1)) _, Four.alloc (hSc.2) _, ⟨_, _, _, _, IsBlk.new _ _ _⟩⟩, fun w h => ⟨h.1, h.2.1⟩, ?_⟩
            generalize wcx.heap.size = g9 at *
            clear hSc
            (try simp only [Act.put, List.setIfInBounds_toArray, List.set_cons_zero, List.set_cons_succ])
            refine Held.one (i := 10) (by kernel_rfl) ?_
            · refine HeldOp.step (i := 10) rfl rfl ?_
              intro wcx hSc
              obtain ⟨c0, c1, c2, c3, hblk⟩ := hSc.2.1
              refine ⟨undef, ((((wcx.setCell ⟨g8, 0, none⟩ (.int .u64 (wd q 0 : Nat))).setCell ⟨g8, 1, none⟩ (.int .u64 (wd q 1 : Nat))).setCell ⟨g8, 2, none⟩ (.int .u64 (wd q 2 : Nat))).setCell ⟨g8, 3, none⟩ (.int .u64 (wd q 3 : Nat))), .inr ⟨?_, rfl⟩, (fun w' => Ext w6 w' ∧ IsBlk w' g8 25 #[.int .u64 (wd q 0 : Nat), .int .u64 (wd q 1 : Nat), .int .u64 (wd q 2 : Nat), .int .u64 (wd q 3 : Nat)] ∧ Four w' g9), ⟨bel4 hSc.1 hg8, stored4 hblk, Four.far4 (hSc.2.2) (by omega)⟩, fun w h => ⟨h.1, ⟨_, _, _, _, h.2.1⟩, h.2.2⟩, ?_⟩
              · have b0 := hblk.cell 0
                have b1 := hblk.cell 1
                have b2 := hblk.cell 2
                have b3 := hblk.cell 3
                simp at b0 b1 b2 b3
                have frb := hblk.free
                have ltb := hblk.lt
                go_simp
              clear hSc hblk
              (try simp only [Act.put, List.setIfInBounds_toArray, List.set_cons_zero, List.set_cons_succ])
              refine Held.one (i := 11) (by kernel_rfl) ?_
              · refine HeldOp.step (i := 11) rfl rfl ?_
                intro wcx hSc
                obtain ⟨c0, c1, c2, c3, hblk⟩ := hSc.2.2
                refine ⟨undef, ((((wcx.setCell ⟨g9, 0, none⟩ (.int .u64 (wd r 0 : Nat))).setCell ⟨g9, 1, none⟩ (.int .u64 (wd r 1 : Nat))).setCell ⟨g9, 2, none⟩ (.int .u64 (wd r 2 : Nat))).setCell ⟨g9, 3, none⟩ (.int .u64 (wd r 3 : Nat))), .inr ⟨?_, rfl⟩, (fun w' => Ext w6 w' ∧ IsBlk w' g8 25 #[.int .u64 (wd q 0 : Nat), .int .u64 (wd q 1 : Nat), .int .u64 (wd q 2 : Nat), .int .u64 (wd q 3 : Nat)] ∧ IsBlk w' g9 25 #[.int .u64 (wd r 0 : Nat), .int .u64 (wd r 1 : Nat), .int .u64 (wd r 2 : Nat), .int .u64 (wd r 3 : Nat)]), ⟨bel4 hSc.1 hg9, far4 (hSc.2.1) (by omega), stored4 hblk⟩, fun w h => ⟨h.1, h.2.1, ⟨_, _, _, _, h.2.2⟩⟩, ?_⟩
                · have b0 := hblk.cell 0
                  have b1 := hblk.cell 1
                  have b2 := hblk.cell 2
                  have b3 := hblk.cell 3
                  simp at b0 b1 b2 b3
                  have frb := hblk.free
                  have ltb := hblk.lt
                  go_simp
                clear hSc hblk
                (try simp only [Act.put, List.setIfInBounds_toArray, List.set_cons_zero, List.set_cons_succ])
                (first | (refine Held.skip (i := 12) rfl (by kernel_rfl) (fun _ _ _ h => h) rfl ?_; (try (try simp only [Act.put, List.setIfInBounds_toArray, List.set_cons_zero, List.set_cons_succ]))) | (refine Held.take (i := 12) (v := ?_) rfl (by kernel_rfl) (fun _ _ _ h => h) rfl ?_ ?_; rotate_left; (intro w hS; have hE := hS.1; have hx := HT.out.after hE; have x0 := hx.cell 0; have x1 := hx.cell 1; have x2 := hx.cell 2; have x3 := hx.cell 3; have hy := HN.out.after hE; have y0 := hy.cell 0; have y1 := hy.cell 1; have y2 := hy.cell 2; have y3 := hy.cell 3; simp at x0 x1 x2 x3 y0 y1 y2 y3; go_simp; with_reducible rfl); (try (try simp only [Act.put, List.setIfInBounds_toArray, List.set_cons_zero, List.set_cons_succ]))))
                refine Held.done (by kernel_rfl) ?_
                intro wz hz
                have hne : g8 ≠ g9 := by omega
                go_wp2_with fail
                go_meet
                exact ⟨g8, g9, rfl, rfl, hg8, hz.1, hz.2.1⟩
        · refine HeldOp.step (i := 9) rfl rfl ?_
          intro wcx hSc
          have hg9 : w6.heap.size ≤ wcx.heap.size := Below.size (hSc.1)
          have hn9 : g8 < wcx.heap.size := Four.lt (hSc.2)
          refine ⟨.pointer (some ⟨wcx.heap.size, 0, none⟩), wcx.alloc (.cells #[.int .u64 0, .int .u64 0, .int .u64 0, .int .u64 0] 25), .inl (by go_simp), (fun w' => Ext w6 w' ∧ Four w' g8 ∧ Four w' wcx.heap.size), ⟨Below.alloc (hSc.1) (Below.size (hSc.1)) _, Four.alloc (hSc.2) _, ⟨_, _, _, _, IsBlk.new _ _ _⟩⟩, fun w h => ⟨h.1, h.2.1⟩, ?_⟩
          generalize wcx.heap.size = g9 at *
          clear hSc
          (try simp only [Act.put, List.setIfInBounds_toArray, List.set_cons_zero, List.set_cons_succ])
          refine Held.one (i := 3) (by kernel_rfl) ?_
          · refine HeldOp.call (i := 3) (f := ?_) (args := ?_) rfl rfl ?_ ?_
            rotate_left 2
            · (intro w hS; go_simp; (first | with_reducible rfl | (refine ⟨?_, ?_⟩ <;> with_reducible rfl)))
            intro wcx hSc
            (with_reducible refine (K5.out _).mono ?_)
            rintro e vc ⟨rfl, hb⟩
            refine ⟨_, rfl, (fun w' => Ext w6 w' ∧ Four w' g8 ∧ Four w' g9), ⟨bel_on hSc.1 hb, hSc.2.1.on hb, hSc.2.2.on hb⟩, fun w h => h, ?_⟩
            clear hSc hb
            (try simp only [Act.put, List.setIfInBounds_toArray, List.set_cons_zero, List.set_cons_succ])
            (first | (refine Held.skip (i := 4) rfl (by kernel_rfl) (fun _ _ _ h => h) rfl ?_; (try (try simp only [Act.put, List.setIfInBounds_toArray, List.set_cons_zero, List.set_cons_succ]))) | (refine Held.take (i := 4) (v := ?_) rfl (by kernel_rfl) (fun _ _ _ h => h) rfl ?_ ?_; rotate_left; (intro w hS; have hE := hS.1; have hx := HT.out.after hE; have x0 := hx.cell 0; have x1 := hx.cell 1; have x2 := hx.cell 2; have x3 := hx.cell 3; have hy := HN.out.after hE; have y0 := hy.cell 0; have y1 := hy.cell 1; have y2 := hy.cell 2; have y3 := hy.cell 3; simp at x0 x1 x2 x3 y0 y1 y2 y3; go_simp; with_reducible rfl); (try (try simp only [Act.put, List.setIfInBounds_toArray, List.set_cons_zero, List.set_cons_succ]))))
            (first | (refine Held.skip (i := 5) rfl (by kernel_rfl) (fun _ _ _ h => h) rfl ?_; (try (try simp only [Act.put, List.setIfInBounds_toArray, List.set_cons_zero, List.set_cons_succ]))) | (refine Held.take (i := 5) (v := ?_) rfl (by kernel_rfl) (fun _ _ _ h => h) rfl ?_ ?_; rotate_left; (intro w hS; have hE := hS.1; have hx := HT.out.after hE; have x0 := hx.cell 0; have x1 := hx.cell 1; have x2 := hx.cell 2; have x3 := hx.cell 3; have hy := HN.out.after hE; have y0 := hy.cell 0; have y1 := hy.cell 1; have y2 := hy.cell 2; have y3 := hy.cell 3; simp at x0 x1 x2 x3 y0 y1 y2 y3; go_simp; with_reducible rfl); (try (try simp only [Act.put, List.setIfInBounds_toArray, List.set_cons_zero, List.set_cons_succ]))))
            (first | (refine Held.skip (i := 6) rfl (by kernel_rfl) (fun _ _ _ h => h) rfl ?_; (try (try simp only [Act.put, List.setIfInBounds_toArray, List.set_cons_zero, List.set_cons_succ]))) | (refine Held.take (i := 6) (v := ?_) rfl (by kernel_rfl) (fun _ _ _ h => h) rfl ?_ ?_; rotate_left; (intro w hS; have hE := hS.1; have hx := HT.out.after hE; have x0 := hx.cell 0; have x1 := hx.cell 1; have x2 := hx.cell 2; have x3 := hx.cell 3; have hy := HN.out.after hE; have y0 := hy.cell 0; have y1 := hy.cell 1; have y2 := hy.cell 2; have y3 := hy.cell 3; simp at x0 x1 x2 x3 y0 y1 y2 y3; go_simp; with_reducible rfl); (try (try simp only [Act.put, List.setIfInBounds_toArray, List.set_cons_zero, List.set_cons_succ]))))
            (first | (refine Held.skip (i := 7) rfl (by kernel_rfl) (fun _ _ _ h => h) rfl ?_; (try (try simp only [Act.put, List.setIfInBounds_toArray, List.set_cons_zero, List.set_cons_succ]))) | (refine Held.take (i := 7) (v := ?_) rfl (by kernel_rfl) (fun _ _ _ h => h) rfl ?_ ?_; rotate_left; (intro w hS; have hE := hS.1; have hx := HT.out.after hE; have x0 := hx.cell 0; have x1 := hx.cell 1; have x2 := hx.cell 2; have x3 := hx.cell 3; have hy := HN.out.after hE; have y0 := hy.cell 0; have y1 := hy.cell 1; have y2 := hy.cell 2; have y3 := hy.cell 3; simp at x0 x1 x2 x3 y0 y1 y2 y3; go_simp; with_reducible rfl); (try (try simp only [Act.put, List.setIfInBounds_toArray, List.set_cons_zero, List.set_cons_succ]))))
            refine Held.one (i := 10) (by kernel_rfl) ?_
            · refine HeldOp.step (i := 10) rfl rfl ?_
              intro wcx hSc
              obtain ⟨c0, c1, c2, c3, hblk⟩ := hSc.2.1
              refine ⟨undef, ((((wcx.setCell ⟨g8, 0, none⟩ (.int .u64 (wd q 0 : Nat))).setCell ⟨g8, 1, none⟩ (.int .u64 (wd q 1 : Nat))).setCell ⟨g8, 2, none⟩ (.int .u64 (wd q 2 : Nat))).setCell ⟨g8, 3, none⟩ (.int .u64 (wd q 3 : Nat))), .inr ⟨?_, rfl⟩, (fun w' => Ext w6 w' ∧ IsBlk w' g8 25 #[.int .u64 (wd q 0 : Nat), .int .u64 (wd q 1 : Nat), .int .u64 (wd q 2 : Nat), .int .u64 (wd q 3 : Nat)] ∧ Four w' g9), ⟨bel4 hSc.1 hg8, stored4 hblk, Four.far4 (hSc.2.2) (by omega)⟩, fun w h => ⟨h.1, ⟨_, _, _, _, h.2.1⟩, h.2.2⟩, ?_⟩
              · have b0 := hblk.cell 0
                have b1 := hblk.cell 1
                have b2 := hblk.cell 2
                have b3 := hblk.cell 3
                simp at b0 b1 b2 b3
                have frb := hblk.free
                have ltb := hblk.lt
                go_simp
              clear hSc hblk
              (try simp only [Act.put, List.setIfInBounds_toArray, List.set_cons_zero, List.set_cons_succ])
              refine Held.one (i := 11) (by kernel_rfl) ?_
              · refine HeldOp.step (i := 11) rfl rfl ?_
                intro wcx hSc
                obtain ⟨c0, c1, c2, c3, hblk⟩ := hSc.2.2
                refine ⟨undef, ((((wcx.setCell ⟨g9, 0, none⟩ (.int .u64 (wd r 0 : Nat))).setCell ⟨g9, 1, none⟩ (.int .u64 (wd r 1 : Nat))).setCell ⟨g9, 2, none⟩ (.int .u64 (wd r 2 : Nat))).setCell ⟨g9, 3, none⟩ (.int .u64 (wd r 3 : Nat))), .inr ⟨?_, rfl⟩, (fun w' => Ext w6 w' ∧ IsBlk w' g8 25 #[.int .u64 (wd q 0 : Nat), .int .u64 (wd q 1 : Nat), .int .u64 (wd q 2 : Nat), .int .u64 (wd q 3 : Nat)] ∧ IsBlk w' g9 25 #[.int .u64 (wd r 0 : Nat), .int .u64 (wd r 1 : Nat), .int .u64 (wd r 2 : Nat), .int .u64 (wd r 3 : Nat)]), ⟨bel4 hSc.1 hg9, far4 (hSc.2.1) (by omega), stored4 hblk⟩, fun w h => ⟨h.1, h.2.1, ⟨_, _, _, _, h.2.2⟩⟩, ?_⟩
                · have b0 := hblk.cell 0
                  have b1 := hblk.cell 1
                  have b2 := hblk.cell 2
                  have b3 := hblk.cell 3
                  simp at b0 b1 b2 b3
                  have frb := hblk.free
                  have ltb := hblk.lt
                  go_simp
                clear hSc hblk
                (try simp only [Act.put, List.setIfInBounds_toArray, List.set_cons_zero, List.set_cons_succ])
                (first | (refine Held.skip (i := 12) rfl (by kernel_rfl) (fun _ _ _ h => h) rfl ?_; (try (try simp only [Act.put, List.setIfInBounds_toArray, List.set_cons_zero, List.set_cons_succ]))) | (refine Held.take (i := 12) (v := ?_) rfl (by kernel_rfl) (fun _ _ _ h => h) rfl ?_ ?_; rotate_left; (intro w hS; have hE := hS.1; have hx := HT.out.after hE; have x0 := hx.cell 0; have x1 := hx.cell 1; have x2 := hx.cell 2; have x3 := hx.cell 3; have hy := HN.out.after hE; have y0 := hy.cell 0; have y1 := hy.cell 1; have y2 := hy.cell 2; have y3 := hy.cell 3; simp at x0 x1 x2 x3 y0 y1 y2 y3; go_simp; with_reducible rfl); (try (try simp only [Act.put, List.setIfInBounds_toArray, List.set_cons_zero, List.set_cons_succ]))))
                refine Held.done (by kernel_rfl) ?_
                intro wz hz
                have hne : g8 ≠ g9 := by omega
                go_wp2_with fail
                go_meet
                exact ⟨g8, g9, rfl, rfl, hg8, hz.1, hz.2.1⟩
      · refine HeldOp.step (i := 9) rfl rfl ?_
        intro wcx hSc
        have hg9 : w6.heap.size ≤ wcx.heap.size := Below.size (hSc)
        refine ⟨.pointer (some ⟨wcx.heap.size, 0, none⟩), wcx.alloc (.cells #[.int .u64 0, .int .u64 0, .int .u64 0, .int .u64 0] 25), .inl (by go_simp), (fun w' => Ext w6 w' ∧ Four w' wcx.heap.size), ⟨Below.alloc (hSc) (Below.size (hSc)) _, ⟨_, _, _, _, IsBlk.new _ _ _⟩⟩, fun w h => h.1, ?_⟩
        generalize wcx.heap.size = g9 at *
        clear hSc
        (try simp only [Act.put, List.setIfInBounds_toArray, List.set_cons_zero, List.set_cons_succ])
        refine Held.two (i := 3) (j := 8) (by kernel_rfl) ?_ ?_
        · refine HeldOp.call (i := 3) (f := ?_) (args := ?_) rfl rfl ?_ ?_
          rotate_left 2
          · (intro w hS; go_simp; (first | with_reducible rfl | (refine ⟨?_, ?_⟩ <;> with_reducible rfl)))
          intro wcx hSc
          (with_reducible refine (K5.out _).mono ?_)
          rintro e vc ⟨rfl, hb⟩
          refine ⟨_, rfl, (fun w' => Ext w6 w' ∧ Four w' g9), ⟨bel_on hSc.1 hb, hSc.2.on hb⟩, fun w h => h, ?_⟩
          clear hSc hb
          (try simp only [Act.put, List.setIfInBounds_toArray, List.set_cons_zero, List.set_cons_succ])
          (first | (refine Held.skip (i := 4) rfl (by kernel_rfl) (fun _ _ _ h => h) rfl ?_; (try (try simp only [Act.put, List.setIfInBounds_toArray, List.set_cons_zero, List.set_cons_succ]))) | (refine Held.take (i := 4) (v := ?_) rfl (by kernel_rfl) (fun _ _ _ h => h) rfl ?_ ?_; rotate_left; (intro w hS; have hE := hS.1; have hx := HT.out.after hE; have x0 := hx.cell 0; have x1 := hx.cell 1; have x2 := hx.cell 2; have x3 := hx.cell 3; have hy := HN.out.after hE; have y0 := hy.cell 0; have y1 := hy.cell 1; have y2 := hy.cell 2; have y3 := hy.cell 3; simp at x0 x1 x2 x3 y0 y1 y2 y3; go_simp; with_reducible rfl); (try (try simp only [Act.put, List.setIfInBounds_toArray, List.set_cons_zero, List.set_cons_succ]))))
          (first | (refine Held.skip (i := 5) rfl (by kernel_rfl) (fun _ _ _ h => h) rfl ?_; (try (try simp only [Act.put, List.setIfInBounds_toArray, List.set_cons_zero, List.set_cons_succ]))) | (refine Held.take (i := 5) (v := ?_) rfl (by kernel_rfl) (fun _ _ _ h => h) rfl ?_ ?_; rotate_left; (intro w hS; have hE := hS.1; have hx := HT.out.after hE; have x0 := hx.cell 0; have x1 := hx.cell 1; have x2 := hx.cell 2; have x3 := hx.cell 3; have hy := HN.out.after hE; have y0 := hy.cell 0; have y1 := hy.cell 1; have y2 := hy.cell 2; have y3 := hy.cell 3; simp at x0 x1 x2 x3 y0 y1 y2 y3; go_simp; with_reducible rfl); (try (try simp only [Act.put, List.setIfInBounds_toArray, List.set_cons_zero, List.set_cons_succ]))))
          (first | (refine Held.skip (i := 6) rfl (by kernel_rfl) (fun _ _ _ h => h) rfl ?_; (try (try simp only [Act.put, List.setIfInBounds_toArray, List.set_cons_zero, List.set_cons_succ]))) | (refine Held.take (i := 6) (v := ?_) rfl (by kernel_rfl) (fun _ _ _ h => h) rfl ?_ ?_; rotate_left; (intro w hS; have hE := hS.1; have hx := HT.out.after hE; have x0 := hx.cell 0; have x1 := hx.cell 1; have x2 := hx.cell 2; have x3 := hx.cell 3; have hy := HN.out.after hE; have y0 := hy.cell 0; have y1 := hy.cell 1; have y2 := hy.cell 2; have y3 := hy.cell 3; simp at x0 x1 x2 x3 y0 y1 y2 y3; go_simp; with_reducible rfl); (try (try simp only [Act.put, List.setIfInBounds_toArray, List.set_cons_zero, List.set_cons_succ]))))
          (first | (refine Held.skip (i := 7) rfl (by kernel_rfl) (fun _ _ _ h => h) rfl ?_; (try (try simp only [Act.put, List.setIfInBounds_toArray, List.set_cons_zero, List.set_cons_succ]))) | (refine Held.take (i := 7) (v := ?_) rfl (by kernel_rfl) (fun _ _ _ h => h) rfl ?_ ?_; rotate_left; (intro w hS; have hE := hS.1; have hx := HT.out.after hE; have x0 := hx.cell 0; have x1 := hx.cell 1; have x2 := hx.cell 2; have x3 := hx.cell 3; have hy := HN.out.after hE; have y0 := hy.cell 0; have y1 := hy.cell 1; have y2 := hy.cell 2; have y3 := hy.cell 3; simp at x0 x1 x2 x3 y0 y1 y2 y3; go_simp; with_reducible rfl); (try (try simp only [Act.put, List.setIfInBounds_toArray, List.set_cons_zero, List.set_cons_succ]))))
          refine Held.one (i := 8) (by kernel_rfl) ?_
          · refine HeldOp.step (i := 8) rfl rfl ?_
            intro wcx hSc
            have hg8 : w6.heap.size ≤ wcx.heap.size := Below.size (hSc.1)
            have hn8 : g9 < wcx.heap.size := Four.lt (hSc.2)
            refine ⟨.pointer (some ⟨wcx.heap.size, 0, none⟩), wcx.alloc (.cells #[.int .u64 0, .int .u64 0, .int .u64 0, .int .u64 0] 25), .inl (by go_simp), (fun w' => Ext w6 w' ∧ Four w' wcx.heap.size ∧ Four w' g9), ⟨Below.alloc (hSc.1) (Below.size (hSc.1)) _, ⟨_, _, _, _, IsBlk.new _ _ _⟩, Four.alloc (hSc.2) _⟩, fun w h => ⟨h.1, h.2.2⟩, ?_⟩
            generalize wcx.heap.size = g8 at *
            clear hSc
            (try simp only [Act.put, List.setIfInBounds_toArray, List.set_cons_zero, List.set_cons_succ])
            refine Held.one (i := 10) (by kernel_rfl) ?_
            · refine HeldOp.step (i := 10) rfl rfl ?_
              intro wcx hSc
              obtain ⟨c0, c1, c2, c3, hblk⟩ := hSc.2.1
              refine ⟨undef, ((((wcx.setCell ⟨g8, 0, none⟩ (.int .u64 (wd q 0 : Nat))).setCell ⟨g8, 1, none⟩ (.int .u64 (wd q 1 : Nat))).setCell ⟨g8, 2, none⟩ (.int .u64 (wd q 2 : Nat))).setCell ⟨g8, 3, none⟩ (.int .u64 (wd q 3 : Nat))), .inr ⟨?_, rfl⟩, (fun w' => Ext w6 w' ∧ IsBlk w' g8 25 #[.int .u64 (wd q 0 : Nat), .int .u64 (wd q 1 : Nat), .int .u64 (wd q 2 : Nat), .int .u64 (wd q 3 : Nat)] ∧ Four w' g9), ⟨bel4 hSc.1 hg8, stored4 hblk, Four.far4 (hSc.2.2) (by omega)⟩, fun w h => ⟨h.1, ⟨_, _, _, _, h.2.1⟩, h.2.2⟩, ?_⟩
              · have b0 := hblk.cell 0
                have b1 := hblk.cell 1
                have b2 := hblk.cell 2
                have b3 := hblk.cell 3
                simp at b0 b1 b2 b3
                have frb := hblk.free
                have ltb := hblk.lt
                go_simp
              clear hSc hblk
              (try simp only [Act.put, List.setIfInBounds_toArray, List.set_cons_zero, List.set_cons_succ])
              refine Held.one (i := 11) (by kernel_rfl) ?_
              · refine HeldOp.step (i := 11) rfl rfl ?_
                intro wcx hSc
                obtain ⟨c0, c1, c2, c3, hblk⟩ := hSc.2.2
                refine ⟨undef, ((((wcx.setCell ⟨g9, 0, none⟩ (.int .u64 (wd r 0 : Nat))).setCell ⟨g9, 1, none⟩ (.int .u64 (wd r 1 : Nat))).setCell ⟨g9, 2, none⟩ (.int .u64 (wd r 2 : Nat))).setCell ⟨g9, 3, none⟩ (.int .u64 (wd r 3 : Nat))), .inr ⟨?_, rfl⟩, (fun w' => Ext w6 w' ∧ IsBlk w' g8 25 #[.int .u64 (wd q 0 : Nat), .int .u64 (wd q 1 : Nat), .int .u64 (wd q 2 : Nat), .int .u64 (wd q 3 : Nat)] ∧ IsBlk w' g9 25 #[.int .u64 (wd r 0 : Nat), .int .u64 (wd r 1 : Nat), .int .u64 (wd r 2 : Nat), .int .u64 (wd r 3 : Nat)]), ⟨bel4 hSc.1 hg9, far4 (hSc.2.1) (by omega), stored4 hblk⟩, fun w h => ⟨h.1, h.2.1, ⟨_, _, _, _, h.2.2⟩⟩, ?_⟩
                · have b0 := hblk.cell 0
                  have b1 := hblk.cell 1
                  have b2 := hblk.cell 2
                  have b3 := hblk.cell 3
                  simp at b0 b1 b2 b3
                  have frb := hblk.free
                  have ltb := hblk.lt
                  go_simp
                clear hSc hblk
                (try simp only [Act.put, List.setIfInBounds_toArray, List.set_cons_zero, List.set_cons_succ])
                (first | (refine Held.skip (i := 12) rfl (by kernel_rfl) (fun _ _ _ h => h) rfl ?_; (try (try simp only [Act.put, List.setIfInBounds_toArray, List.set_cons_zero, List.set_cons_succ]))) | (refine Held.take (i := 12) (v := ?_) rfl (by kernel_rfl) (fun _ _ _ h => h) rfl ?_ ?_; rotate_left; (intro w hS; have hE := hS.1; have hx := HT.out.after hE; have x0 := hx.cell 0; have x1 := hx.cell 1; have x2 := hx.cell 2; have x3 := hx.cell 3; have hy := HN.out.after hE; have y0 := hy.cell 0; have y1 := hy.cell 1; have y2 := hy.cell 2; have y3 := hy.cell 3; simp at x0 x1 x2 x3 y0 y1 y2 y3; go_simp; with_reducible rfl); (try (try simp only [Act.put, List.setIfInBounds_toArray, List.set_cons_zero, List.set_cons_succ]))))
                refine Held.done (by kernel_rfl) ?_
                intro wz hz
                have hne : g8 ≠ g9 := by omega
                go_wp2_with fail
                go_meet
                exact ⟨g8, g9, rfl, rfl, hg8, hz.1, hz.2.1⟩
        · refine HeldOp.step (i := 8) rfl rfl ?_
          intro wcx hSc
          have hg8 : w6.heap.size ≤ wcx.heap.size := Below.size (hSc.1)
          have hn8 : g9 < wcx.heap.size := Four.lt (hSc.2)
          refine ⟨.pointer (some ⟨wcx.heap.size, 0, none⟩), wcx.alloc (.cells #[.int .u64 0, .int .u64 0, .int .u64 0, .int .u64 0] 25), .inl (by go_simp), (fun w' => Ext w6 w' ∧ Four w' wcx.heap.size ∧ Four w' g9), ⟨Below.alloc (hSc.1) (Below.size (hSc.1)) _, ⟨_, _, _, _, IsBlk.new _ _ _⟩, Four.alloc (hSc.2) _⟩, fun w h => ⟨h.1, h.2.2⟩, ?_⟩
          generalize wcx.heap.size = g8 at *
          clear hSc
          (try simp only [Act.put, List.setIfInBounds_toArray, List.set_cons_zero, List.set_cons_succ])
          refine Held.one (i := 3) (by kernel_rfl) ?_
          · refine HeldOp.call (i := 3) (f := ?_) (args := ?_) rfl rfl ?_ ?_
            rotate_left 2
            · (intro w hS; go_simp; (first | with_reducible rfl | (refine ⟨?_, ?_⟩ <;> with_reducible rfl)))
            intro wcx hSc
            (with_reducible refine (K5.out _).mono ?_)
            rintro e vc ⟨rfl, hb⟩
            refine ⟨_, rfl, (fun w' => Ext w6 w' ∧ Four w' g8 ∧ Four w' g9), ⟨bel_on hSc.1 hb, hSc.2.1.on hb, hSc.2.2.on hb⟩, fun w h => h, ?_⟩
            clear hSc hb
            (try simp only [Act.put, List.setIfInBounds_toArray, List.set_cons_zero, List.set_cons_succ])
            (first | (refine Held.skip (i := 4) rfl (by kernel_rfl) (fun _ _ _ h => h) rfl ?_; (try (try simp only [Act.put, List.setIfInBounds_toArray, List.set_cons_zero, List.set_cons_succ]))) | (refine Held.take (i := 4) (v := ?_) rfl (by kernel_rfl) (fun _ _ _ h => h) rfl ?_ ?_; rotate_left; (intro w hS; have hE := hS.1; have hx := HT.out.after hE; have x0 := hx.cell 0; have x1 := hx.cell 1; have x2 := hx.cell 2; have x3 := hx.cell 3; have hy := HN.out.after hE; have y0 := hy.cell 0; have y1 := hy.cell 1; have y2 := hy.cell 2; have y3 := hy.cell 3; simp at x0 x1 x2 x3 y0 y1 y2 y3; go_simp; with_reducible rfl); (try (try simp only [Act.put, List.setIfInBounds_toArray, List.set_cons_zero, List.set_cons_succ]))))
            (first | (refine Held.skip (i := 5) rfl (by kernel_rfl) (fun _ _ _ h => h) rfl ?_; (try (try simp only [Act.put, List.setIfInBounds_toArray, List.set_cons_zero, List.set_cons_succ]))) | (refine Held.take (i := 5) (v := ?_) rfl (by kernel_rfl) (fun _ _ _ h => h) rfl ?_ ?_; rotate_left; (intro w hS; have hE := hS.1; have hx := HT.out.after hE; have x0 := hx.cell 0; have x1 := hx.cell 1; have x2 := hx.cell 2; have x3 := hx.cell 3; have hy := HN.out.after hE; have y0 := hy.cell 0; have y1 := hy.cell 1; have y2 := hy.cell 2; have y3 := hy.cell 3; simp at x0 x1 x2 x3 y0 y1 y2 y3; go_simp; with_reducible rfl); (try (try simp only [Act.put, List.setIfInBounds_toArray, List.set_cons_zero, List.set_cons_succ]))))
            (first | (refine Held.skip (i := 6) rfl (by kernel_rfl) (fun _ _ _ h => h) rfl ?_; (try (try simp only [Act.put, List.setIfInBounds_toArray, List.set_cons_zero, List.set_cons_succ]))) | (refine Held.take (i := 6) (v := ?_) rfl (by kernel_rfl) (fun _ _ _ h => h) rfl ?_ ?_; rotate_left; (intro w hS; have hE := hS.1; have hx := HT.out.after hE; have x0 := hx.cell 0; have x1 := hx.cell 1; have x2 := hx.cell 2; have x3 := hx.cell 3; have hy := HN.out.after hE; have y0 := hy.cell 0; have y1 := hy.cell 1; have y2 := hy.cell 2; have y3 := hy.cell 3; simp at x0 x1 x2 x3 y0 y1 y2 y3; go_simp; with_reducible rfl); (try (try simp only [Act.put, List.setIfInBounds_toArray, List.set_cons_zero, List.set_cons_succ]))))
            (first | (refine Held.skip (i := 7) rfl (by kernel_rfl) (fun _ _ _ h => h) rfl ?_; (try (try simp only [Act.put, List.setIfInBounds_toArray, List.set_cons_zero, List.set_cons_succ]))) | (refine Held.take (i := 7) (v := ?_) rfl (by kernel_rfl) (fun _ _ _ h => h) rfl ?_ ?_; rotate_left; (intro w hS; have hE := hS.1; have hx := HT.out.after hE; have x0 := hx.cell 0; have x1 := hx.cell 1; have x2 := hx.cell 2; have x3 := hx.cell 3; have hy := HN.out.after hE; have y0 := hy.cell 0; have y1 := hy.cell 1; have y2 := hy.cell 2; have y3 := hy.cell 3; simp at x0 x1 x2 x3 y0 y1 y2 y3; go_simp; with_reducible rfl); (try (try simp only [Act.put, List.setIfInBounds_toArray, List.set_cons_zero, List.set_cons_succ]))))
            refine Held.one (i := 10) (by kernel_rfl) ?_
            · refine HeldOp.step (i := 10) rfl rfl ?_
              intro wcx hSc
              obtain ⟨c0, c1, c2, c3, hblk⟩ := hSc.2.1
              refine ⟨undef, ((((wcx.setCell ⟨g8, 0, none⟩ (.int .u64 (wd q 0 : Nat))).setCell ⟨g8, 1, none⟩ (.int .u64 (wd q 1 : Nat))).setCell ⟨g8, 2, none⟩ (.int .u64 (wd q 2 : Nat))).setCell ⟨g8, 3, none⟩ (.int .u64 (wd q 3 : Nat))), .inr ⟨?_, rfl⟩, (fun w' => Ext w6 w' ∧ IsBlk w' g8 25 #[.int .u64 (wd q 0 : Nat), .int .u64 (wd q 1 : Nat), .int .u64 (wd q 2 : Nat), .int .u64 (wd q 3 : Nat)] ∧ Four w' g9), ⟨bel4 hSc.1 hg8, stored4 hblk, Four.far4 (hSc.2.2) (by omega)⟩, fun w h => ⟨h.1, ⟨_, _, _, _, h.2.1⟩, h.2.2⟩, ?_⟩
              · have b0 := hblk.cell 0
                have b1 := hblk.cell 1
                have b2 := hblk.cell 2
                have b3 := hblk.cell 3
                simp at b0 b1 b2 b3
                have frb := hblk.free
                have ltb := hblk.lt
                go_simp
              clear hSc hblk
              (try simp only [Act.put, List.setIfInBounds_toArray, List.set_cons_zero, List.set_cons_succ])
              refine Held.one (i := 11) (by kernel_rfl) ?_
              · refine HeldOp.step (i := 11) rfl rfl ?_
                intro wcx hSc
                obtain ⟨c0, c1, c2, c3, hblk⟩ := hSc.2.2
                refine ⟨undef, ((((wcx.setCell ⟨g9, 0, none⟩ (.int .u64 (wd r 0 : Nat))).setCell ⟨g9, 1, none⟩ (.int .u64 (wd r 1 : Nat))).setCell ⟨g9, 2, none⟩ (.int .u64 (wd r 2 : Nat))).setCell ⟨g9, 3, none⟩ (.int .u64 (wd r 3 : Nat))), .inr ⟨?_, rfl⟩, (fun w' => Ext w6 w' ∧ IsBlk w' g8 25 #[.int .u64 (wd q 0 : Nat), .int .u64 (wd q 1 : Nat), .int .u64 (wd q 2 : Nat), .int .u64 (wd q 3 : Nat)] ∧ IsBlk w' g9 25 #[.int .u64 (wd r 0 : Nat), .int .u64 (wd r 1 : Nat), .int .u64 (wd r 2 : Nat), .int .u64 (wd r 3 : Nat)]), ⟨bel4 hSc.1 hg9, far4 (hSc.2.1) (by omega), stored4 hblk⟩, fun w h => ⟨h.1, h.2.1, ⟨_, _, _, _, h.2.2⟩⟩, ?_⟩
                · have b0 := hblk.cell 0
                  have b1 := hblk.cell 1
                  have b2 := hblk.cell 2
                  have b3 := hblk.cell 3
                  simp at b0 b1 b2 b3
                  have frb := hblk.free
                  have ltb := hblk.lt
                  go_simp
                clear hSc hblk
                (try simp only [Act.put, List.setIfInBounds_toArray, List.set_cons_zero, List.set_cons_succ])
                (first | (refine Held.skip (i := 12) rfl (by kernel_rfl) (fun _ _ _ h => h) rfl ?_; (try (try simp only [Act.put, List.setIfInBounds_toArray, List.set_cons_zero, List.set_cons_succ]))) | (refine Held.take (i := 12) (v := ?_) rfl (by kernel_rfl) (fun _ _ _ h => h) rfl ?_ ?_; rotate_left; (intro w hS; have hE := hS.1; have hx := HT.out.after hE; have x0 := hx.cell 0; have x1 := hx.cell 1; have x2 := hx.cell 2; have x3 := hx.cell 3; have hy := HN.out.after hE; have y0 := hy.cell 0; have y1 := hy.cell 1; have y2 := hy.cell 2; have y3 := hy.cell 3; simp at x0 x1 x2 x3 y0 y1 y2 y3; go_simp; with_reducible rfl); (try (try simp only [Act.put, List.setIfInBounds_toArray, List.set_cons_zero, List.set_cons_succ]))))
                refine Held.done (by kernel_rfl) ?_
                intro wz hz
                have hne : g8 ≠ g9 := by omega
                go_wp2_with fail
                go_meet
                exact ⟨g8, g9, rfl, rfl, hg8, hz.1, hz.2.1⟩
    · refine HeldOp.step (i := 8) rfl rfl ?_
      intro wcx hSc
      have hg8 : w6.heap.size ≤ wcx.heap.size := Below.size (hSc)
      refine ⟨.pointer (some ⟨wcx.heap.size, 0, none⟩), wcx.alloc (.cells #[.int .u64 0, .int .u64 0, .int .u64 0, .int .u64 0] 25), .inl (by go_simp), (fun w' => Ext w6 w' ∧ Four w' wcx.heap.size), ⟨Below.alloc (hSc) (Below.size (hSc)) _, ⟨_, _, _, _, IsBlk.new _ _ _⟩⟩, fun w h => h.1, ?_⟩
      generalize wcx.heap.size = g8 at *
      clear hSc
      (try simp only [Act.put, List.setIfInBounds_toArray, List.set_cons_zero, List.set_cons_succ])
      refine Held.two (i := 1) (j := 9) (by kernel_rfl) ?_ ?_
      · refine HeldOp.call (i := 1) (f := ?_) (args := ?_) rfl rfl ?_ ?_
        rotate_left 2
        · (intro w hS; go_simp; (first | with_reducible rfl | (refine ⟨?_, ?_⟩ <;> with_reducible rfl)))
        intro wcx hSc
        (with_reducible refine (K4.out _).mono ?_)
        rintro e vc ⟨rfl, hb⟩
        refine ⟨_, rfl, (fun w' => Ext w6 w' ∧ Four w' g8), ⟨bel_on hSc.1 hb, hSc.2.on hb⟩, fun w h => h, ?_⟩
        clear hSc hb
        (try simp only [Act.put, List.setIfInBounds_toArray, List.set_cons_zero, List.set_cons_succ])
        refine Held.two (i := 3) (j := 9) (by kernel_rfl) ?_ ?_
        · refine HeldOp.call (i := 3) (f := ?_) (args := ?_) rfl rfl ?_ ?_
          rotate_left 2
          · (intro w hS; go_simp; (first | with_reducible rfl | (refine ⟨?_, ?_⟩ <;> with_reducible rfl)))
          intro wcx hSc
          (with_reducible refine (K5.out _).mono ?_)
          rintro e vc ⟨rfl, hb⟩
          refine ⟨_, rfl, (fun w' => Ext w6 w' ∧ Four w' g8), ⟨bel_on hSc.1 hb, hSc.2.on hb⟩, fun w h => h, ?_⟩
          clear hSc hb
          (try simp only [Act.put, List.setIfInBounds_toArray, List.set_cons_zero, List.set_cons_succ])
          (first | (refine Held.skip (i := 4) rfl (by kernel_rfl) (fun _ _ _ h => h) rfl ?_; (try (try simp only [Act.put, List.setIfInBounds_toArray, List.set_cons_zero, List.set_cons_succ]))) | (refine Held.take (i := 4) (v := ?_) rfl (by kernel_rfl) (fun _ _ _ h => h) rfl ?_ ?_; rotate_left; (intro w hS; have hE := hS.1; have hx := HT.out.after hE; have x0 := hx.cell 0; have x1 := hx.cell 1; have x2 := hx.cell 2; have x3 := hx.cell 3; have hy := HN.out.after hE; have y0 := hy.cell 0; have y1 := hy.cell 1; have y2 := hy.cell 2; have y3 := hy.cell 3; simp at x0 x1 x2 x3 y0 y1 y2 y3; go_simp; with_reducible rfl); (try (try simp only [Act.put, List.setIfInBounds_toArray, List.set_cons_zero, List.set_cons_succ]))))
          (first | (refine Held.skip (i := 5) rfl (by kernel_rfl) (fun _ _ _ h => h) rfl ?_; (try (try simp only [Act.put, List.setIfInBounds_toArray, List.set_cons_zero, List.set_cons_succ]))) | (refine Held.take (i := 5) (v := ?_) rfl (by kernel_rfl) (fun _ _ _ h => h) rfl ?_ ?_; rotate_left; (intro w hS; have hE := hS.1; have hx := HT.out.after hE; have x0 := hx.cell 0; have x1 := hx.cell 1; have x2 := hx.cell 2; have x3 := hx.cell 3; have hy := HN.out.after hE; have y0 := hy.cell 0; have y1 := hy.cell 1; have y2 := hy.cell 2; have y3 := hy.cell 3; simp at x0 x1 x2 x3 y0 y1 y2 y3; go_simp; with_reducible rfl); (try (try simp only [Act.put, List.setIfInBounds_toArray, List.set_cons_zero, List.set_cons_succ]))))
          (first | (refine Held.skip (i := 6) rfl (by kernel_rfl) (fun _ _ _ h => h) rfl ?_; (try (try simp only [Act.put, List.setIfInBounds_toArray, List.set_cons_zero, List.set_cons_succ]))) | (refine Held.take (i := 6) (v := ?_) rfl (by kernel_rfl) (fun _ _ _ h => h) rfl ?_ ?_; rotate_left; (intro w hS; have hE := hS.1; have hx := HT.out.after hE; have x0 := hx.cell 0; have x1 := hx.cell 1; have x2 := hx.cell 2; have x3 := hx.cell 3; have hy := HN.out.after hE; have y0 := hy.cell 0; have y1 := hy.cell 1; have y2 := hy.cell 2; have y3 := hy.cell 3; simp at x0 x1 x2 x3 y0 y1 y2 y3; go_simp; with_reducible rfl); (try (try simp only [Act.put, List.setIfInBounds_toArray, List.set_cons_zero, List.set_cons_succ]))))
          (first | (refine Held.skip (i := 7) rfl (by kernel_rfl) (fun _ _ _ h => h) rfl ?_; (try (try simp only [Act.put, List.setIfInBounds_toArray, List.set_cons_zero, List.set_cons_succ]))) | (refine Held.take (i := 7) (v := ?_) rfl (by kernel_rfl) (fun _ _ _ h => h) rfl ?_ ?_; rotate_left; (intro w hS; have hE := hS.1; have hx := HT.out.after hE; have x0 := hx.cell 0; have x1 := hx.cell 1; have x2 := hx.cell 2; have x3 := hx.cell 3; have hy := HN.out.after hE; have y0 := hy.cell 0; have y1 := hy.cell 1; have y2 := hy.cell 2; have y3 := hy.cell 3; simp at x0 x1 x2 x3 y0 y1 y2 y3; go_simp; with_reducible rfl); (try (try simp only [Act.put, List.setIfInBounds_toArray, List.set_cons_zero, List.set_cons_succ]))))
          refine Held.one (i := 9) (by kernel_rfl) ?_
          · refine HeldOp.step (i := 9) rfl rfl ?_
            intro wcx hSc
            have hg9 : w6.heap.size ≤ wcx.heap.size := Below.size (hSc.1)
            have hn9 : g8 < wcx.heap.size := Four.lt (hSc.2)
            refine ⟨.pointer (some ⟨wcx.heap.size, 0, none⟩), wcx.alloc (.cells #[.int .u64 0, .int .u64 0, .int .u64 0, .int .u64 0] 25), .inl (by go_simp), (fun w' => Ext w6 w' ∧ Four w' g8 ∧ Four w' wcx.heap.size), ⟨Below.alloc (hSc.1) (Below.size (hSc.1)) _, Four.alloc (hSc.2) _, ⟨_, _, _, _, IsBlk.new _ _ _⟩⟩, fun w h => ⟨h.1, h.2.1⟩, ?_⟩
            generalize wcx.heap.size = g9 at *
            clear hSc
            (try simp only [Act.put, List.setIfInBounds_toArray, List.set_cons_zero, List.set_cons_succ])
            refine Held.one (i := 10) (by kernel_rfl) ?_
            · refine HeldOp.step (i := 10) rfl rfl ?_
              intro wcx hSc
              obtain ⟨c0, c1, c2, c3, hblk⟩ := hSc.2.1
              refine ⟨undef, ((((wcx.setCell ⟨g8, 0, none⟩ (.int .u64 (wd q 0 : Nat))).setCell ⟨g8, 1, none⟩ (.int .u64 (wd q 1 : Nat))).setCell ⟨g8, 2, none⟩ (.int .u64 (wd q 2 : Nat))).setCell ⟨g8, 3, none⟩ (.int .u64 (wd q 3 : Nat))), .inr ⟨?_, rfl⟩, (fun w' => Ext w6 w' ∧ IsBlk w' g8 25 #[.int .u64 (wd q 0 : Nat), .int .u64 (wd q 1 : Nat), .int .u64 (wd q 2 : Nat), .int .u64 (wd q 3 : Nat)] ∧ Four w' g9), ⟨bel4 hSc.1 hg8, stored4 hblk, Four.far4 (hSc.2.2) (by omega)⟩, fun w h => ⟨h.1, ⟨_, _, _, _, h.2.1⟩, h.2.2⟩, ?_⟩
              · have b0 := hblk.cell 0
                have b1 := hblk.cell 1
                have b2 := hblk.cell 2
                have b3 := hblk.cell 3
                simp at b0 b1 b2 b3
                have frb := hblk.free
                have ltb := hblk.lt
                go_simp
              clear hSc hblk
              (try simp only [Act.put, List.setIfInBounds_toArray, List.set_cons_zero, List.set_cons_succ])
              refine Held.one (i := 11) (by kernel_rfl) ?_
              · refine HeldOp.step (i := 11) rfl rfl ?_
                intro wcx hSc
                obtain ⟨c0, c1, c2, c3, hblk⟩ := hSc.2.2
                refine ⟨undef, ((((wcx.setCell ⟨g9, 0, none⟩ (.int .u64 (wd r 0 : Nat))).setCell ⟨g9, 1, none⟩ (.int .u64 (wd r 1 : Nat))).setCell ⟨g9, 2, none⟩ (.int .u64 (wd r 2 : Nat))).setCell ⟨g9, 3, none⟩ (.int .u64 (wd r 3 : Nat))), .inr ⟨?_, rfl⟩, (fun w' => Ext w6 w' ∧ IsBlk w' g8 25 #[.int .u64 (wd q 0 : Nat), .int .u64 (wd q 1 : Nat), .int .u64 (wd q 2 : Nat), .int .u64 (wd q 3 : Nat)] ∧ IsBlk w' g9 25 #[.int .u64 (wd r 0 : Nat), .int .u64 (wd r 1 : Nat), .int .u64 (wd r 2 : Nat), .int .u64 (wd r 3 : Nat)]), ⟨bel4 hSc.1 hg9, far4 (hSc.2.1) (by omega), stored4 hblk⟩, fun w h => ⟨h.1, h.2.1, ⟨_, _, _, _, h.2.2⟩⟩, ?_⟩
                · have b0 := hblk.cell 0
                  have b1 := hblk.cell 1
                  have b2 := hblk.cell 2
                  have b3 := hblk.cell 3
                  simp at b0 b1 b2 b3
                  have frb := hblk.free
                  have ltb := hblk.lt
                  go_simp
                clear hSc hblk
                (try simp only [Act.put, List.setIfInBounds_toArray, List.set_cons_zero, List.set_cons_succ])
                (first | (refine Held.skip (i := 12) rfl (by kernel_rfl) (fun _ _ _ h => h) rfl ?_; (try (try simp only [Act.put, List.setIfInBounds_toArray, List.set_cons_zero, List.set_cons_succ]))) | (refine Held.take (i := 12) (v := ?_) rfl (by kernel_rfl) (fun _ _ _ h => h) rfl ?_ ?_; rotate_left; (intro w hS; have hE := hS.1; have hx := HT.out.after hE; have x0 := hx.cell 0; have x1 := hx.cell 1; have x2 := hx.cell 2; have x3 := hx.cell 3; have hy := HN.out.after hE; have y0 := hy.cell 0; have y1 := hy.cell 1; have y2 := hy.cell 2; have y3 := hy.cell 3; simp at x0 x1 x2 x3 y0 y1 y2 y3; go_simp; with_reducible rfl); (try (try simp only [Act.put, List.setIfInBounds_toArray, List.set_cons_zero, List.set_cons_succ]))))
                refine Held.done (by kernel_rfl) ?_
                intro wz hz
                have hne : g8 ≠ g9 := by omega
                go_wp2_with fail
                go_meet
                exact ⟨g8, g9, rfl, rfl, hg8, hz.1, hz.2.1⟩
        · refine HeldOp.step (i := 9) rfl rfl ?_
          intro wcx hSc
          have hg9 : w6.heap.size ≤ wcx.heap.size := Below.size (hSc.1)
          have hn9 : g8 < wcx.heap.size := Four.lt (hSc.2)
          refine ⟨.pointer (some ⟨wcx.heap.size, 0, none⟩), wcx.alloc (.cells #[.int .u64 0, .int .u64 0, .int .u64 0, .int .u64 0] 25), .inl (by go_simp), (fun w' => Ext w6 w' ∧ Four w' g8 ∧ Four w' wcx.heap.size), ⟨Below.alloc (hSc.1) (Below.size (hSc.1)) _, Four.alloc (hSc.2) _, ⟨_, _, _, _, IsBlk.new _ _ _⟩⟩, fun w h => ⟨h.1, h.2.1⟩, ?_⟩
          generalize wcx.heap.size = g9 at *
          clear hSc
          (try simp only [Act.put, List.setIfInBounds_toArray, List.set_cons_zero, List.set_cons_succ])
          refine Held.one (i := 3) (by kernel_rfl) ?_
          · refine HeldOp.call (i := 3) (f := ?_) (args := ?_) rfl rfl ?_ ?_
            rotate_left 2
            · (intro w hS; go_simp; (first | with_reducible rfl | (refine ⟨?_, ?_⟩ <;> with_reducible rfl)))
            intro wcx hSc
            (with_reducible refine (K5.out _).mono ?_)
            rintro e vc ⟨rfl, hb⟩
            refine ⟨_, rfl, (fun w' => Ext w6 w' ∧ Four w' g8 ∧ Four w' g9), ⟨bel_on hSc.1 hb, hSc.2.1.on hb, hSc.2.2.on hb⟩, fun w h => h, ?_⟩
            clear hSc hb
            (try simp only [Act.put, List.setIfInBounds_toArray, List.set_cons_zero, List.set_cons_succ])
            (first | (refine Held.skip (i := 4) rfl (by kernel_rfl) (fun _ _ _ h => h) rfl ?_; (try (try simp only [Act.put, List.setIfInBounds_toArray, List.set_cons_zero, List.set_cons_succ]))) | (refine Held.take (i := 4) (v := ?_) rfl (by kernel_rfl) (fun _ _ _ h => h) rfl ?_ ?_; rotate_left; (intro w hS; have hE := hS.1; have hx := HT.out.after hE; have x0 := hx.cell 0; have x1 := hx.cell 1; have x2 := hx.cell 2; have x3 := hx.cell 3; have hy := HN.out.after hE; have y0 := hy.cell 0; have y1 := hy.cell 1; have y2 := hy.cell 2; have y3 := hy.cell 3; simp at x0 x1 x2 x3 y0 y1 y2 y3; go_simp; with_reducible rfl); (try (try simp only [Act.put, List.setIfInBounds_toArray, List.set_cons_zero, List.set_cons_succ]))))
            (first | (refine Held.skip (i := 5) rfl (by kernel_rfl) (fun _ _ _ h => h) rfl ?_; (try (try simp only [Act.put, List.setIfInBounds_toArray, List.set_cons_zero, List.set_cons_succ]))) | (refine Held.take (i := 5) (v := ?_) rfl (by kernel_rfl) (fun _ _ _ h => h) rfl ?_ ?_; rotate_left; (intro w hS; have hE := hS.1; have hx := HT.out.after hE; have x0 := hx.cell 0; have x1 := hx.cell 1; have x2 := hx.cell 2; have x3 := hx.cell 3; have hy := HN.out.after hE; have y0 := hy.cell 0; have y1 := hy.cell 1; have y2 := hy.cell 2; have y3 := hy.cell 3; simp at x0 x1 x2 x3 y0 y1 y2 y3; go_simp; with_reducible rfl); (try (try simp only [Act.put, List.setIfInBounds_toArray, List.set_cons_zero, List.set_cons_succ]))))
            (first | (refine Held.skip (i := 6) rfl (by kernel_rfl) (fun _ _ _ h => h) rfl ?_; (try (try simp only [Act.put, List.setIfInBounds_toArray, List.set_cons_zero, List.set_cons_succ]))) | (refine Held.take (i := 6) (v := ?_) rfl (by kernel_rfl) (fun _ _ _ h => h) rfl ?_ ?_; rotate_left; (intro w hS; have hE := hS.1; have hx := HT.out.after hE; have x0 := hx.cell 0; have x1 := hx.cell 1; have x2 := hx.cell 2; have x3 := hx.cell 3; have hy := HN.out.after hE; have y0 := hy.cell 0; have y1 := hy.cell 1; have y2 := hy.cell 2; have y3 := hy.cell 3; simp at x0 x1 x2 x3 y0 y1 y2 y3; go_simp; with_reducible rfl); (try (try simp only [Act.put, List.setIfInBounds_toArray, List.set_cons_zero, List.set_cons_succ]))))
            (first | (refine Held.skip (i := 7) rfl (by kernel_rfl) (fun _ _ _ h => h) rfl ?_; (try (try simp only [Act.put, List.setIfInBounds_toArray, List.set_cons_zero, List.set_cons_succ]))) | (refine Held.take (i := 7) (v := ?_) rfl (by kernel_rfl) (fun _ _ _ h => h) rfl ?_ ?_; rotate_left; (intro w hS; have hE := hS.1; have hx := HT.out.after hE; have x0 := hx.cell 0; have x1 := hx.cell 1; have x2 := hx.cell 2; have x3 := hx.cell 3; have hy := HN.out.after hE; have y0 := hy.cell 0; have y1 := hy.cell 1; have y2 := hy.cell 2; have y3 := hy.cell 3; simp at x0 x1 x2 x3 y0 y1 y2 y3; go_simp; with_reducible rfl); (try (try simp only [Act.put, List.setIfInBounds_toArray, List.set_cons_zero, List.set_cons_succ]))))
            refine Held.one (i := 10) (by kernel_rfl) ?_
            · refine HeldOp.step (i := 10) rfl rfl ?_
              intro wcx hSc
              obtain ⟨c0, c1, c2, c3, hblk⟩ := hSc.2.1
              refine ⟨undef, ((((wcx.setCell ⟨g8, 0, none⟩ (.int .u64 (wd q 0 : Nat))).setCell ⟨g8, 1, none⟩ (.int .u64 (wd q 1 : Nat))).setCell ⟨g8, 2, none⟩ (.int .u64 (wd q 2 : Nat))).setCell ⟨g8, 3, none⟩ (.int .u64 (wd q 3 : Nat))), .inr ⟨?_, rfl⟩, (fun w' => Ext w6 w' ∧ IsBlk w' g8 25 #[.int .u64 (wd q 0 : Nat), .int .u64 (wd q 1 : Nat), .int .u64 (wd q 2 : Nat), .int .u64 (wd q 3 : Nat)] ∧ Four w' g9), ⟨bel4 hSc.1 hg8, stored4 hblk, Four.far4 (hSc.2.2) (by omega)⟩, fun w h => ⟨h.1, ⟨_, _, _, _, h.2.1⟩, h.2.2⟩, ?_⟩
              · have b0 := hblk.cell 0
                have b1 := hblk.cell 1
                have b2 := hblk.cell 2
                have b3 := hblk.cell 3
                simp at b0 b1 b2 b3
                have frb := hblk.free
                have ltb := hblk.lt
                go_simp
              clear hSc hblk
              (try simp only [Act.put, List.setIfInBounds_toArray, List.set_cons_zero, List.set_cons_succ])
              refine Held.one (i := 11) (by kernel_rfl) ?_
              · refine HeldOp.step (i := 11) rfl rfl ?_
                intro wcx hSc
                obtain ⟨c0, c1, c2, c3, hblk⟩ := hSc.2.2
                refine ⟨undef, ((((wcx.setCell ⟨g9, 0, none⟩ (.int .u64 (wd r 0 : Nat))).setCell ⟨g9, 1, none⟩ (.int .u64 (wd r 1 : Nat))).setCell ⟨g9, 2, none⟩ (.int .u64 (wd r 2 : Nat))).setCell ⟨g9, 3, none⟩ (.int .u64 (wd r 3 : Nat))), .inr ⟨?_, rfl⟩, (fun w' => Ext w6 w' ∧ IsBlk w' g8 25 #[.int .u64 (wd q 0 : Nat), .int .u64 (wd q 1 : Nat), .int .u64 (wd q 2 : Nat), .int .u64 (wd q 3 : Nat)] ∧ IsBlk w' g9 25 #[.int .u64 (wd r 0 : Nat), .int .u64 (wd r 1 : Nat), .int .u64 (wd r 2 : Nat), .int .u64 (wd r 3 : Nat)]), ⟨bel4 hSc.1 hg9, far4 (hSc.2.1) (by omega), stored4 hblk⟩, fun w h => ⟨h.1, h.2.1, ⟨_, _, _, _, h.2.2⟩⟩, ?_⟩
                · have b0 := hblk.cell 0
                  have b1 := hblk.cell 1
                  have b2 := hblk.cell 2
                  have b3 := hblk.cell 3
                  simp at b0 b1 b2 b3
                  have frb := hblk.free
                  have ltb := hblk.lt
                  go_simp
                clear hSc hblk
                (try simp only [Act.put, List.setIfInBounds_toArray, List.set_cons_zero, List.set_cons_succ])
                (first | (refine Held.skip (i := 12) rfl (by kernel_rfl) (fun _ _ _ h => h) rfl ?_; (try (try simp only [Act.put, List.setIfInBounds_toArray, List.set_cons_zero, List.set_cons_succ]))) | (refine Held.take (i := 12) (v := ?_) rfl (by kernel_rfl) (fun _ _ _ h => h) rfl ?_ ?_; rotate_left; (intro w hS; have hE := hS.1; have hx := HT.out.after hE; have x0 := hx.cell 0; have x1 := hx.cell 1; have x2 := hx.cell 2; have x3 := hx.cell 3; have hy := HN.out.after hE; have y0 := hy.cell 0; have y1 := hy.cell 1; have y2 := hy.cell 2; have y3 := hy.cell 3; simp at x0 x1 x2 x3 y0 y1 y2 y3; go_simp; with_reducible rfl); (try (try simp only [Act.put, List.setIfInBounds_toArray, List.set_cons_zero, List.set_cons_succ]))))
                refine Held.done (by kernel_rfl) ?_
                intro wz hz
                have hne : g8 ≠ g9 := by omega
                go_wp2_with fail
                go_meet
                exact ⟨g8, g9, rfl, rfl, hg8, hz.1, hz.2.1⟩
      · refine HeldOp.step (i := 9) rfl rfl ?_
        intro wcx hSc
        have hg9 : w6.heap.size ≤ wcx.heap.size := Below.size (hSc.1)
        have hn9 : g8 < wcx.heap.size := Four.lt (hSc.2)
        refine ⟨.pointer (some ⟨wcx.heap.size, 0, none⟩), wcx.alloc (.cells #[.int .u64 0, .int .u64 0, .int .u64 0, .int .u64 0] 25), .inl (by go_simp), (fun w' => Ext w6 w' ∧ Four w' g8 ∧ Four w' wcx.heap.size), ⟨Below.alloc (hSc.1) (Below.size (hSc.1)) _, Four.alloc (hSc.2) _, ⟨_, _, _, _, IsBlk.new _ _ _⟩⟩, fun w h => ⟨h.1, h.2.1⟩, ?_⟩
        generalize wcx.heap.size = g9 at *
        clear hSc
        (try simp only [Act.put, List.setIfInBounds_toArray, List.set_cons_zero, List.set_cons_succ])
        refine Held.one (i := 1) (by kernel_rfl) ?_
        · refine HeldOp.call (i := 1) (f := ?_) (args := ?_) rfl rfl ?_ ?_
          rotate_left 2
          · (intro w hS; go_simp; (first | with_reducible rfl | (refine ⟨?_, ?_⟩ <;> with_reducible rfl)))
          intro wcx hSc
          (with_reducible refine (K4.out _).mono ?_)
          rintro e vc ⟨rfl, hb⟩
          refine ⟨_, rfl, (fun w' => Ext w6 w' ∧ Four w' g8 ∧ Four w' g9), ⟨bel_on hSc.1 hb, hSc.2.1.on hb, hSc.2.2.on hb⟩, fun w h => h, ?_⟩
          clear hSc hb
          (try simp only [Act.put, List.setIfInBounds_toArray, List.set_cons_zero, List.set_cons_succ])
          refine Held.one (i := 3) (by kernel_rfl) ?_
          · refine HeldOp.call (i := 3) (f := ?_) (args := ?_) rfl rfl ?_ ?_
            rotate_left 2
            · (intro w hS; go_simp; (first | with_reducible rfl | (refine ⟨?_, ?_⟩ <;> with_reducible rfl)))
            intro wcx hSc
            (with_reducible refine (K5.out _).mono ?_)
            rintro e vc ⟨rfl, hb⟩
            refine ⟨_, rfl, (fun w' => Ext w6 w' ∧ Four w' g8 ∧ Four w' g9), ⟨bel_on hSc.1 hb, hSc.2.1.on hb, hSc.2.2.on hb⟩, fun w h => h, ?_⟩
            clear hSc hb
            (try simp only [Act.put, List.setIfInBounds_toArray, List.set_cons_zero, List.set_cons_succ])
            (first | (refine Held.skip (i := 4) rfl (by kernel_rfl) (fun _ _ _ h => h) rfl ?_; (try (try simp only [Act.put, List.setIfInBounds_toArray, List.set_cons_zero, List.set_cons_succ]))) | (refine Held.take (i := 4) (v := ?_) rfl (by kernel_rfl) (fun _ _ _ h => h) rfl ?_ ?_; rotate_left; (intro w hS; have hE := hS.1; have hx := HT.out.after hE; have x0 := hx.cell 0; have x1 := hx.cell 1; have x2 := hx.cell 2; have x3 := hx.cell 3; have hy := HN.out.after hE; have y0 := hy.cell 0; have y1 := hy.cell 1; have y2 := hy.cell 2; have y3 := hy.cell 3; simp at x0 x1 x2 x3 y0 y1 y2 y3; go_simp; with_reducible rfl); (try (try simp only [Act.put, List.setIfInBounds_toArray, List.set_cons_zero, List.set_cons_succ]))))
            (first | (refine Held.skip (i := 5) rfl (by kernel_rfl) (fun _ _ _ h => h) rfl ?_; (try (try simp only [Act.put, List.setIfInBounds_toArray, List.set_cons_zero, List.set_cons_succ]))) | (refine Held.take (i := 5) (v := ?_) rfl (by kernel_rfl) (fun _ _ _ h => h) rfl ?_ ?_; rotate_left; (intro w hS; have hE := hS.1; have hx := HT.out.after hE; have x0 := hx.cell 0; have x1 := hx.cell 1; have x2 := hx.cell 2; have x3 := hx.cell 3; have hy := HN.out.after hE; have y0 := hy.cell 0; have y1 := hy.cell 1; have y2 := hy.cell 2; have y3 := hy.cell 3; simp at x0 x1 x2 x3 y0 y1 y2 y3; go_simp; with_reducible rfl); (try (try simp only [Act.put, List.setIfInBounds_toArray, List.set_cons_zero, List.set_cons_succ]))))
            (first | (refine Held.skip (i := 6) rfl (by kernel_rfl) (fun _ _ _ h => h) rfl ?_; (try (try simp only [Act.put, List.setIfInBounds_toArray, List.set_cons_zero, List.set_cons_succ]))) | (refine Held.take (i := 6) (v := ?_) rfl (by kernel_rfl) (fun _ _ _ h => h) rfl ?_ ?_; rotate_left; (intro w hS; have hE := hS.1; have hx := HT.out.after hE; have x0 := hx.cell 0; have x1 := hx.cell 1; have x2 := hx.cell 2; have x3 := hx.cell 3; have hy := HN.out.after hE; have y0 := hy.cell 0; have y1 := hy.cell 1; have y2 := hy.cell 2; have y3 := hy.cell 3; simp at x0 x1 x2 x3 y0 y1 y2 y3; go_simp; with_reducible rfl); (try (try simp only [Act.put, List.setIfInBounds_toArray, List.set_cons_zero, List.set_cons_succ]))))
            (first | (refine Held.skip (i := 7) rfl (by kernel_rfl) (fun _ _ _ h => h) rfl ?_; (try (try simp only [Act.put, List.setIfInBounds_toArray, List.set_cons_zero, List.set_cons_succ]))) | (refine Held.take (i := 7) (v := ?_) rfl (by kernel_rfl) (fun _ _ _ h => h) rfl ?_ ?_; rotate_left; (intro w hS; have hE := hS.1; have hx := HT.out.after hE; have x0 := hx.cell 0; have x1 := hx.cell 1; have x2 := hx.cell 2; have x3 := hx.cell 3; have hy := HN.out.after hE; have y0 := hy.cell 0; have y1 := hy.cell 1; have y2 := hy.cell 2; have y3 := hy.cell 3; simp at x0 x1 x2 x3 y0 y1 y2 y3; go_simp; with_reducible rfl); (try (try simp only [Act.put, List.setIfInBounds_toArray, List.set_cons_zero, List.set_cons_succ]))))
            refine Held.one (i := 10) (by kernel_rfl) ?_
            · refine HeldOp.step (i := 10) rfl rfl ?_
              intro wcx hSc
              obtain ⟨c0, c1, c2, c3, hblk⟩ := hSc.2.1
              refine ⟨undef, ((((wcx.setCell ⟨g8, 0, none⟩ (.int .u64 (wd q 0 : Nat))).setCell ⟨g8, 1, none⟩ (.int .u64 (wd q 1 : Nat))).setCell ⟨g8, 2, none⟩ (.int .u64 (wd q 2 : Nat))).setCell ⟨g8, 3, none⟩ (.int .u64 (wd q 3 : Nat))), .inr ⟨?_, rfl⟩, (fun w' => Ext w6 w' ∧ IsBlk w' g8 25 #[.int .u64 (wd q 0 : Nat), .int .u64 (wd q 1 : Nat), .int .u64 (wd q 2 : Nat), .int .u64 (wd q 3 : Nat)] ∧ Four w' g9), ⟨bel4 hSc.1 hg8, stored4 hblk, Four.far4 (hSc.2.2) (by omega)⟩, fun w h => ⟨h.1, ⟨_, _, _, _, h.2.1⟩, h.2.2⟩, ?_⟩
              · have b0 := hblk.cell 0
                have b1 := hblk.cell 1
                have b2 := hblk.cell 2
                have b3 := hblk.cell 3
                simp at b0 b1 b2 b3
                have frb := hblk.free
                have ltb := hblk.lt
                go_simp
              clear hSc hblk
              (try simp only [Act.put, List.setIfInBounds_toArray, List.set_cons_zero, List.set_cons_succ])
              refine Held.one (i := 11) (by kernel_rfl) ?_
              · refine HeldOp.step (i := 11) rfl rfl ?_
                intro wcx hSc
                obtain ⟨c0, c1, c2, c3, hblk⟩ := hSc.2.2
                refine ⟨undef, ((((wcx.setCell ⟨g9, 0, none⟩ (.int .u64 (wd r 0 : Nat))).setCell ⟨g9, 1, none⟩ (.int .u64 (wd r 1 : Nat))).setCell ⟨g9, 2, none⟩ (.int .u64 (wd r 2 : Nat))).setCell ⟨g9, 3, none⟩ (.int .u64 (wd r 3 : Nat))), .inr ⟨?_, rfl⟩, (fun w' => Ext w6 w' ∧ IsBlk w' g8 25 #[.int .u64 (wd q 0 : Nat), .int .u64 (wd q 1 : Nat), .int .u64 (wd q 2 : Nat), .int .u64 (wd q 3 : Nat)] ∧ IsBlk w' g9 25 #[.int .u64 (wd r 0 : Nat), .int .u64 (wd r 1 : Nat), .int .u64 (wd r 2 : Nat), .int .u64 (wd r 3 : Nat)]), ⟨bel4 hSc.1 hg9, far4 (hSc.2.1) (by omega), stored4 hblk⟩, fun w h => ⟨h.1, h.2.1, ⟨_, _, _, _, h.2.2⟩⟩, ?_⟩
                · have b0 := hblk.cell 0
                  have b1 := hblk.cell 1
                  have b2 := hblk.cell 2
                  have b3 := hblk.cell 3
                  simp at b0 b1 b2 b3
                  have frb := hblk.free
                  have ltb := hblk.lt
                  go_simp
                clear hSc hblk
                (try simp only [Act.put, List.setIfInBounds_toArray, List.set_cons_zero, List.set_cons_succ])
                (first | (refine Held.skip (i := 12) rfl (by kernel_rfl) (fun _ _ _ h => h) rfl ?_; (try (try simp only [Act.put, List.setIfInBounds_toArray, List.set_cons_zero, List.set_cons_succ]))) | (refine Held.take (i := 12) (v := ?_) rfl (by kernel_rfl) (fun _ _ _ h => h) rfl ?_ ?_; rotate_left; (intro w hS; have hE := hS.1; have hx := HT.out.after hE; have x0 := hx.cell 0; have x1 := hx.cell 1; have x2 := hx.cell 2; have x3 := hx.cell 3; have hy := HN.out.after hE; have y0 := hy.cell 0; have y1 := hy.cell 1; have y2 := hy.cell 2; have y3 := hy.cell 3; simp at x0 x1 x2 x3 y0 y1 y2 y3; go_simp; with_reducible rfl); (try (try simp only [Act.put, List.setIfInBounds_toArray, List.set_cons_zero, List.set_cons_succ]))))
                refine Held.done (by kernel_rfl) ?_
                intro wz hz
                have hne : g8 ≠ g9 := by omega
                go_wp2_with fail
                go_meet
                exact ⟨g8, g9, rfl, rfl, hg8, hz.1, hz.2.1⟩
    · refine HeldOp.step (i := 9) rfl rfl ?_
      intro wcx hSc
      have hg9 : w6.heap.size ≤ wcx.heap.size := Below.size (hSc)
      refine ⟨.pointer (some ⟨wcx.heap.size, 0, none⟩), wcx.alloc (.cells #[.int .u64 0, .int .u64 0, .int .u64 0, .int .u64 0] 25), .inl (by go_simp), (fun w' => Ext w6 w' ∧ Four w' wcx.heap.size), ⟨Below.alloc (hSc) (Below.size (hSc)) _, ⟨_, _, _, _, IsBlk.new _ _ _⟩⟩, fun w h => h.1, ?_⟩
      generalize wcx.heap.size = g9 at *
      clear hSc
      (try simp only [Act.put, List.setIfInBounds_toArray, List.set_cons_zero, List.set_cons_succ])
      refine Held.two (i := 1) (j := 8) (by kernel_rfl) ?_ ?_
      · refine HeldOp.call (i := 1) (f := ?_) (args := ?_) rfl rfl ?_ ?_
        rotate_left 2
        · (intro w hS; go_simp; (first | with_reducible rfl | (refine ⟨?_, ?_⟩ <;> with_reducible rfl)))
        intro wcx hSc
        (with_reducible refine (K4.out _).mono ?_)
        rintro e vc ⟨rfl, hb⟩
        refine ⟨_, rfl, (fun w' => Ext w6 w' ∧ Four w' g9), ⟨bel_on hSc.1 hb, hSc.2.on hb⟩, fun w h => h, ?_⟩
        clear hSc hb
        (try simp only [Act.put, List.setIfInBounds_toArray, List.set_cons_zero, List.set_cons_succ])
        refine Held.two (i := 3) (j := 8) (by kernel_rfl) ?_ ?_
        · refine HeldOp.call (i := 3) (f := ?_) (args := ?_) rfl rfl ?_ ?_
          rotate_left 2
          · (intro w hS; go_simp; (first | with_reducible rfl | (refine ⟨?_, ?_⟩ <;> with_reducible rfl)))
          intro wcx hSc
          (with_reducible refine (K5.out _).mono ?_)
          rintro e vc ⟨rfl, hb⟩
          refine ⟨_, rfl, (fun w' => Ext w6 w' ∧ Four w' g9), ⟨bel_on hSc.1 hb, hSc.2.on hb⟩, fun w h => h, ?_⟩
          clear hSc hb
          (try simp only [Act.put, List.setIfInBounds_toArray, List.set_cons_zero, List.set_cons_succ])
          (first | (refine Held.skip (i := 4) rfl (by kernel_rfl) (fun _ _ _ h => h) rfl ?_; (try (try simp only [Act.put, List.setIfInBounds_toArray, List.set_cons_zero, List.set_cons_succ]))) | (refine Held.take (i := 4) (v := ?_) rfl (by kernel_rfl) (fun _ _ _ h => h) rfl ?_ ?_; rotate_left; (intro w hS; have hE := hS.1; have hx := HT.out.after hE; have x0 := hx.cell 0; have x1 := hx.cell 1; have x2 := hx.cell 2; have x3 := hx.cell 3; have hy := HN.out.after hE; have y0 := hy.cell 0; have y1 := hy.cell 1; have y2 := hy.cell 2; have y3 := hy.cell 3; simp at x0 x1 x2 x3 y0 y1 y2 y3; go_simp; with_reducible rfl); (try (try simp only [Act.put, List.setIfInBounds_toArray, List.set_cons_zero, List.set_cons_succ]))))
          (first | (refine Held.skip (i := 5) rfl (by kernel_rfl) (fun _ _ _ h => h) rfl ?_; (try (try simp only [Act.put, List.setIfInBounds_toArray, List.set_cons_zero, List.set_cons_succ]))) | (refine Held.take (i := 5) (v := ?_) rfl (by kernel_rfl) (fun _ _ _ h => h) rfl ?_ ?_; rotate_left; (intro w hS; have hE := hS.1; have hx := HT.out.after hE; have x0 := hx.cell 0; have x1 := hx.cell 1; have x2 := hx.cell 2; have x3 := hx.cell 3; have hy := HN.out.after hE; have y0 := hy.cell 0; have y1 := hy.cell 1; have y2 := hy.cell 2; have y3 := hy.cell 3; simp at x0 x1 x2 x3 y0 y1 y2 y3; go_simp; with_reducible rfl); (try (try simp only [Act.put, List.setIfInBounds_toArray, List.set_cons_zero, List.set_cons_succ]))))
          (first | (refine Held.skip (i := 6) rfl (by kernel_rfl) (fun _ _ _ h => h) rfl ?_; (try (try simp only [Act.put, List.setIfInBounds_toArray, List.set_cons_zero, List.set_cons_succ]))) | (refine Held.take (i := 6) (v := ?_) rfl (by kernel_rfl) (fun _ _ _ h => h) rfl ?_ ?_; rotate_left; (intro w hS; have hE := hS.1; have hx := HT.out.after hE; have x0 := hx.cell 0; have x1 := hx.cell 1; have x2 := hx.cell 2; have x3 := hx.cell 3; have hy := HN.out.after hE; have y0 := hy.cell 0; have y1 := hy.cell 1; have y2 := hy.cell 2; have y3 := hy.cell 3; simp at x0 x1 x2 x3 y0 y1 y2 y3; go_simp; with_reducible rfl); (try (try simp only [Act.put, List.setIfInBounds_toArray, List.set_cons_zero, List.set_cons_succ]))))
          (first | (refine Held.skip (i := 7) rfl (by kernel_rfl) (fun _ _ _ h => h) rfl ?_; (try (try simp only [Act.put, List.setIfInBounds_toArray, List.set_cons_zero, List.set_cons_succ]))) | (refine Held.take (i := 7) (v := ?_) rfl (by kernel_rfl) (fun _ _ _ h => h) rfl ?_ ?_; rotate_left; (intro w hS; have hE := hS.1; have hx := HT.out.after hE; have x0 := hx.cell 0; have x1 := hx.cell 1; have x2 := hx.cell 2; have x3 := hx.cell 3; have hy := HN.out.after hE; have y0 := hy.cell 0; have y1 := hy.cell 1; have y2 := hy.cell 2; have y3 := hy.cell 3; simp at x0 x1 x2 x3 y0 y1 y2 y3; go_simp; with_reducible rfl); (try (try simp only [Act.put, List.setIfInBounds_toArray, List.set_cons_zero, List.set_cons_succ]))))
          refine Held.one (i := 8) (by kernel_rfl) ?_
          · refine HeldOp.step (i := 8) rfl rfl ?_
            intro wcx hSc
            have hg8 : w6.heap.size ≤ wcx.heap.size := Below.size (hSc.1)
            have hn8 : g9 < wcx.heap.size := Four.lt (hSc.2)
            refine ⟨.pointer (some ⟨wcx.heap.size, 0, none⟩), wcx.alloc (.cells #[.int .u64 0, .int .u64 0, .int .u64 0, .int .u64 0] 25), .inl (by go_simp), (fun w' => Ext w6 w' ∧ Four w' wcx.heap.size ∧ Four w' g9), ⟨Below.alloc (hSc.1) (Below.size (hSc.1)) _, ⟨_, _, _, _, IsBlk.new _ _ _⟩, Four.alloc (hSc.2) _⟩, fun w h => ⟨h.1, h.2.2⟩, ?_⟩
            generalize wcx.heap.size = g8 at *
            clear hSc
            (try simp only [Act.put, List.setIfInBounds_toArray, List.set_cons_zero, List.set_cons_succ])
            refine Held.one (i := 10) (by kernel_rfl) ?_
            · refine HeldOp.step (i := 10) rfl rfl ?_
              intro wcx hSc
              obtain ⟨c0, c1, c2, c3, hblk⟩ := hSc.2.1
              refine ⟨undef, ((((wcx.setCell ⟨g8, 0, none⟩ (.int .u64 (wd q 0 : Nat))).setCell ⟨g8, 1, none⟩ (.int .u64 (wd q 1 : Nat))).setCell ⟨g8, 2, none⟩ (.int .u64 (wd q 2 : Nat))).setCell ⟨g8, 3, none⟩ (.int .u64 (wd q 3 : Nat))), .inr ⟨?_, rfl⟩, (fun w' => Ext w6 w' ∧ IsBlk w' g8 25 #[.int .u64 (wd q 0 : Nat), .int .u64 (wd q 1 : Nat), .int .u64 (wd q 2 : Nat), .int .u64 (wd q 3 : Nat)] ∧ Four w' g9), ⟨bel4 hSc.1 hg8, stored4 hblk, Four.far4 (hSc.2.2) (by omega)⟩, fun w h => ⟨h.1, ⟨_, _, _, _, h.2.1⟩, h.2.2⟩, ?_⟩
              · have b0 := hblk.cell 0
                have b1 := hblk.cell 1
                have b2 := hblk.cell 2
                have b3 := hblk.cell 3
                simp at b0 b1 b2 b3
                have frb := hblk.free
                have ltb := hblk.lt
                go_simp
              clear hSc hblk
              (try simp only [Act.put, List.setIfInBounds_toArray, List.set_cons_zero, List.set_cons_succ])
              refine Held.one (i := 11) (by kernel_rfl) ?_
              · refine HeldOp.step (i := 11) rfl rfl ?_
                intro wcx hSc
                obtain ⟨c0, c1, c2, c3, hblk⟩ := hSc.2.2
                refine ⟨undef, ((((wcx.setCell ⟨g9, 0, none⟩ (.int .u64 (wd r 0 : Nat))).setCell ⟨g9, 1, none⟩ (.int .u64 (wd r 1 : Nat))).setCell ⟨g9, 2, none⟩ (.int .u64 (wd r 2 : Nat))).setCell ⟨g9, 3, none⟩ (.int .u64 (wd r 3 : Nat))), .inr ⟨?_, rfl⟩, (fun w' => Ext w6 w' ∧ IsBlk w' g8 25 #[.int .u64 (wd q 0 : Nat), .int .u64 (wd q 1 : Nat), .int .u64 (wd q 2 : Nat), .int .u64 (wd q 3 : Nat)] ∧ IsBlk w' g9 25 #[.int .u64 (wd r 0 : Nat), .int .u64 (wd r 1 : Nat), .int .u64 (wd r 2 : Nat), .int .u64 (wd r 3 : Nat)]), ⟨bel4 hSc.1 hg9, far4 (hSc.2.1) (by omega), stored4 hblk⟩, fun w h => ⟨h.1, h.2.1, ⟨_, _, _, _, h.2.2⟩⟩, ?_⟩
                · have b0 := hblk.cell 0
                  have b1 := hblk.cell 1
                  have b2 := hblk.cell 2
                  have b3 := hblk.cell 3
                  simp at b0 b1 b2 b3
                  have frb := hblk.free
                  have ltb := hblk.lt
                  go_simp
                clear hSc hblk
                (try simp only [Act.put, List.setIfInBounds_toArray, List.set_cons_zero, List.set_cons_succ])
                (first | (refine Held.skip (i := 12) rfl (by kernel_rfl) (fun _ _ _ h => h) rfl ?_; (try (try simp only [Act.put, List.setIfInBounds_toArray, List.set_cons_zero, List.set_cons_succ]))) | (refine Held.take (i := 12) (v := ?_) rfl (by kernel_rfl) (fun _ _ _ h => h) rfl ?_ ?_; rotate_left; (intro w hS; have hE := hS.1; have hx := HT.out.after hE; have x0 := hx.cell 0; have x1 := hx.cell 1; have x2 := hx.cell 2; have x3 := hx.cell 3; have hy := HN.out.after hE; have y0 := hy.cell 0; have y1 := hy.cell 1; have y2 := hy.cell 2; have y3 := hy.cell 3; simp at x0 x1 x2 x3 y0 y1 y2 y3; go_simp; with_reducible rfl); (try (try simp only [Act.put, List.setIfInBounds_toArray, List.set_cons_zero, List.set_cons_succ]))))
                refine Held.done (by kernel_rfl) ?_
                intro wz hz
                have hne : g8 ≠ g9 := by omega
                go_wp2_with fail
                go_meet
                exact ⟨g8, g9, rfl, rfl, hg8, hz.1, hz.2.1⟩
        · refine HeldOp.step (i := 8) rfl rfl ?_
          intro wcx hSc
          have hg8 : w6.heap.size ≤ wcx.heap.size := Below.size (hSc.1)
          have hn8 : g9 < wcx.heap.size := Four.lt (hSc.2)
          refine ⟨.pointer (some ⟨wcx.heap.size, 0, none⟩), wcx.alloc (.cells #[.int .u64 0, .int .u64 0, .int .u64 0, .int .u64 0] 25), .inl (by go_simp), (fun w' => Ext w6 w' ∧ Four w' wcx.heap.size ∧ Four w' g9), ⟨Below.alloc (hSc.1) (Below.size (hSc.1)) _, ⟨_, _, _, _, IsBlk.new _ _ _⟩, Four.alloc (hSc.2) _⟩, fun w h => ⟨h.1, h.2.2⟩, ?_⟩
          generalize wcx.heap.size = g8 at *
          clear hSc
          (try simp only [Act.put, List.setIfInBounds_toArray, List.set_cons_zero, List.set_cons_succ])
          refine Held.one (i := 3) (by kernel_rfl) ?_
          · refine HeldOp.call (i := 3) (f := ?_) (args := ?_) rfl rfl ?_ ?_
            rotate_left 2
            · (intro w hS; go_simp; (first | with_reducible rfl | (refine ⟨?_, ?_⟩ <;> with_reducible rfl)))
            intro wcx hSc
            (with_reducible refine (K5.out _).mono ?_)
            rintro e vc ⟨rfl, hb⟩
            refine ⟨_, rfl, (fun w' => Ext w6 w' ∧ Four w' g8 ∧ Four w' g9), ⟨bel_on hSc.1 hb, hSc.2.1.on hb, hSc.2.2.on hb⟩, fun w h => h, ?_⟩
            clear hSc hb
            (try simp only [Act.put, List.setIfInBounds_toArray, List.set_cons_zero, List.set_cons_succ])
            (first | (refine Held.skip (i := 4) rfl (by kernel_rfl) (fun _ _ _ h => h) rfl ?_; (try (try simp only [Act.put, List.setIfInBounds_toArray, List.set_cons_zero, List.set_cons_succ]))) | (refine Held.take (i := 4) (v := ?_) rfl (by kernel_rfl) (fun _ _ _ h => h) rfl ?_ ?_; rotate_left; (intro w hS; have hE := hS.1; have hx := HT.out.after hE; have x0 := hx.cell 0; have x1 := hx.cell 1; have x2 := hx.cell 2; have x3 := hx.cell 3; have hy := HN.out.after hE; have y0 := hy.cell 0; have y1 := hy.cell 1; have y2 := hy.cell 2; have y3 := hy.cell 3; simp at x0 x1 x2 x3 y0 y1 y2 y3; go_simp; with_reducible rfl); (try (try simp only [Act.put, List.setIfInBounds_toArray, List.set_cons_zero, List.set_cons_succ]))))
            (first | (refine Held.skip (i := 5) rfl (by kernel_rfl) (fun _ _ _ h => h) rfl ?_; (try (try simp only [Act.put, List.setIfInBounds_toArray, List.set_cons_zero, List.set_cons_succ]))) | (refine Held.take (i := 5) (v := ?_) rfl (by kernel_rfl) (fun _ _ _ h => h) rfl ?_ ?_; rotate_left; (intro w hS; have hE := hS.1; have hx := HT.out.after hE; have x0 := hx.cell 0; have x1 := hx.cell 1; have x2 := hx.cell 2; have x3 := hx.cell 3; have hy := HN.out.after hE; have y0 := hy.cell 0; have y1 := hy.cell 1; have y2 := hy.cell 2; have y3 := hy.cell 3; simp at x0 x1 x2 x3 y0 y1 y2 y3; go_simp; with_reducible rfl); (try (try simp only [Act.put, List.setIfInBounds_toArray, List.set_cons_zero, List.set_cons_succ]))))
            (first | (refine Held.skip (i := 6) rfl (by kernel_rfl) (fun _ _ _ h => h) rfl ?_; (try (try simp only [Act.put, List.setIfInBounds_toArray, List.set_cons_zero, List.set_cons_succ]))) | (refine Held.take (i := 6) (v := ?_) rfl (by kernel_rfl) (fun _ _ _ h => h) rfl ?_ ?_; rotate_left; (intro w hS; have hE := hS.1; have hx := HT.out.after hE; have x0 := hx.cell 0; have x1 := hx.cell 1; have x2 := hx.cell 2; have x3 := hx.cell 3; have hy := HN.out.after hE; have y0 := hy.cell 0; have y1 := hy.cell 1; have y2 := hy.cell 2; have y3 := hy.cell 3; simp at x0 x1 x2 x3 y0 y1 y2 y3; go_simp; with_reducible rfl); (try (try simp only [Act.put, List.setIfInBounds_toArray, List.set_cons_zero, List.set_cons_succ]))))
            (first | (refine Held.skip (i := 7) rfl (by kernel_rfl) (fun _ _ _ h => h) rfl ?_; (try (try simp only [Act.put, List.setIfInBounds_toArray, List.set_cons_zero, List.set_cons_succ]))) | (refine Held.take (i := 7) (v := ?_) rfl (by kernel_rfl) (fun _ _ _ h => h) rfl ?_ ?_; rotate_left; (intro w hS; have hE := hS.1; have hx := HT.out.after hE; have x0 := hx.cell 0; have x1 := hx.cell 1; have x2 := hx.cell 2; have x3 := hx.cell 3; have hy := HN.out.after hE; have y0 := hy.cell 0; have y1 := hy.cell 1; have y2 := hy.cell 2; have y3 := hy.cell 3; simp at x0 x1 x2 x3 y0 y1 y2 y3; go_simp; with_reducible rfl); (try (try simp only [Act.put, List.setIfInBounds_toArray, List.set_cons_zero, List.set_cons_succ]))))
            refine Held.one (i := 10) (by kernel_rfl) ?_
            · refine HeldOp.step (i := 10) rfl rfl ?_
              intro wcx hSc
              obtain ⟨c0, c1, c2, c3, hblk⟩ := hSc.2.1
              refine ⟨undef, ((((wcx.setCell ⟨g8, 0, none⟩ (.int .u64 (wd q 0 : Nat))).setCell ⟨g8, 1, none⟩ (.int .u64 (wd q 1 : Nat))).setCell ⟨g8, 2, none⟩ (.int .u64 (wd q 2 : Nat))).setCell ⟨g8, 3, none⟩ (.int .u64 (wd q 3 : Nat))), .inr ⟨?_, rfl⟩, (fun w' => Ext w6 w' ∧ IsBlk w' g8 25 #[.int .u64 (wd q 0 : Nat), .int .u64 (wd q 1 : Nat), .int .u64 (wd q 2 : Nat), .int .u64 (wd q 3 : Nat)] ∧ Four w' g9), ⟨bel4 hSc.1 hg8, stored4 hblk, Four.far4 (hSc.2.2) (by omega)⟩, fun w h => ⟨h.1, ⟨_, _, _, _, h.2.1⟩, h.2.2⟩, ?_⟩
              · have b0 := hblk.cell 0
                have b1 := hblk.cell 1
                have b2 := hblk.cell 2
                have b3 := hblk.cell 3
                simp at b0 b1 b2 b3
                have frb := hblk.free
                have ltb := hblk.lt
                go_simp
              clear hSc hblk
              (try simp only [Act.put, List.setIfInBounds_toArray, List.set_cons_zero, List.set_cons_succ])
              refine Held.one (i := 11) (by kernel_rfl) ?_
              · refine HeldOp.step (i := 11) rfl rfl ?_
                intro wcx hSc
                obtain ⟨c0, c1, c2, c3, hblk⟩ := hSc.2.2
                refine ⟨undef, ((((wcx.setCell ⟨g9, 0, none⟩ (.int .u64 (wd r 0 : Nat))).setCell ⟨g9, 1, none⟩ (.int .u64 (wd r 1 : Nat))).setCell ⟨g9, 2, none⟩ (.int .u64 (wd r 2 : Nat))).setCell ⟨g9, 3, none⟩ (.int .u64 (wd r 3 : Nat))), .inr ⟨?_, rfl⟩, (fun w' => Ext w6 w' ∧ IsBlk w' g8 25 #[.int .u64 (wd q 0 : Nat), .int .u64 (wd q 1 : Nat), .int .u64 (wd q 2 : Nat), .int .u64 (wd q 3 : Nat)] ∧ IsBlk w' g9 25 #[.int .u64 (wd r 0 : Nat), .int .u64 (wd r 1 : Nat), .int .u64 (wd r 2 : Nat), .int .u64 (wd r 3 : Nat)]), ⟨bel4 hSc.1 hg9, far4 (hSc.2.1) (by omega), stored4 hblk⟩, fun w h => ⟨h.1, h.2.1, ⟨_, _, _, _, h.2.2⟩⟩, ?_⟩
                · have b0 := hblk.cell 0
                  have b1 := hblk.cell 1
                  have b2 := hblk.cell 2
                  have b3 := hblk.cell 3
                  simp at b0 b1 b2 b3
                  have frb := hblk.free
                  have ltb := hblk.lt
                  go_simp
                clear hSc hblk
                (try simp only [Act.put, List.setIfInBounds_toArray, List.set_cons_zero, List.set_cons_succ])
                (first | (refine Held.skip (i := 12) rfl (by kernel_rfl) (fun _ _ _ h => h) rfl ?_; (try (try simp only [Act.put, List.setIfInBounds_toArray, List.set_cons_zero, List.set_cons_succ]))) | (refine Held.take (i := 12) (v := ?_) rfl (by kernel_rfl) (fun _ _ _ h => h) rfl ?_ ?_; rotate_left; (intro w hS; have hE := hS.1; have hx := HT.out.after hE; have x0 := hx.cell 0; have x1 := hx.cell 1; have x2 := hx.cell 2; have x3 := hx.cell 3; have hy := HN.out.after hE; have y0 := hy.cell 0; have y1 := hy.cell 1; have y2 := hy.cell 2; have y3 := hy.cell 3; simp at x0 x1 x2 x3 y0 y1 y2 y3; go_simp; with_reducible rfl); (try (try simp only [Act.put, List.setIfInBounds_toArray, List.set_cons_zero, List.set_cons_succ]))))
                refine Held.done (by kernel_rfl) ?_
                intro wz hz
                have hne : g8 ≠ g9 := by omega
                go_wp2_with fail
                go_meet
                exact ⟨g8, g9, rfl, rfl, hg8, hz.1, hz.2.1⟩
      · refine HeldOp.step (i := 8) rfl rfl ?_
        intro wcx hSc
        have hg8 : w6.heap.size ≤ wcx.heap.size := Below.size (hSc.1)
        have hn8 : g9 < wcx.heap.size := Four.lt (hSc.2)
        refine ⟨.pointer (some ⟨wcx.heap.size, 0, none⟩), wcx.alloc (.cells #[.int .u64 0, .int .u64 0, .int .u64 0, .int .u64 0] 25), .inl (by go_simp), (fun w' => Ext w6 w' ∧ Four w' wcx.heap.size ∧ Four w' g9), ⟨Below.alloc (hSc.1) (Below.size (hSc.1)) _, ⟨_, _, _, _, IsBlk.new _ _ _⟩, Four.alloc (hSc.2) _⟩, fun w h => ⟨h.1, h.2.2⟩, ?_⟩
        generalize wcx.heap.size = g8 at *
        clear hSc
        (try simp only [Act.put, List.setIfInBounds_toArray, List.set_cons_zero, List.set_cons_succ])
        refine Held.one (i := 1) (by kernel_rfl) ?_
        · refine HeldOp.call (i := 1) (f := ?_) (args := ?_) rfl rfl ?_ ?_
          rotate_left 2
          · (intro w hS; go_simp; (first | with_reducible rfl | (refine ⟨?_, ?_⟩ <;> with_reducible rfl)))
          intro wcx hSc
          (with_reducible refine (K4.out _).mono ?_)
          rintro e vc ⟨rfl, hb⟩
          refine ⟨_, rfl, (fun w' => Ext w6 w' ∧ Four w' g8 ∧ Four w' g9), ⟨bel_on hSc.1 hb, hSc.2.1.on hb, hSc.2.2.on hb⟩, fun w h => h, ?_⟩
          clear hSc hb
          (try simp only [Act.put, List.setIfInBounds_toArray, List.set_cons_zero, List.set_cons_succ])
          refine Held.one (i := 3) (by kernel_rfl) ?_
          · refine HeldOp.call (i := 3) (f := ?_) (args := ?_) rfl rfl ?_ ?_
            rotate_left 2
            · (intro w hS; go_simp; (first | with_reducible rfl | (refine ⟨?_, ?_⟩ <;> with_reducible rfl)))
            intro wcx hSc
            (with_reducible refine (K5.out _).mono ?_)
            rintro e vc ⟨rfl, hb⟩
            refine ⟨_, rfl, (fun w' => Ext w6 w' ∧ Four w' g8 ∧ Four w' g9), ⟨bel_on hSc.1 hb, hSc.2.1.on hb, hSc.2.2.on hb⟩, fun w h => h, ?_⟩
            clear hSc hb
            (try simp only [Act.put, List.setIfInBounds_toArray, List.set_cons_zero, List.set_cons_succ])
            (first | (refine Held.skip (i := 4) rfl (by kernel_rfl) (fun _ _ _ h => h) rfl ?_; (try (try simp only [Act.put, List.setIfInBounds_toArray, List.set_cons_zero, List.set_cons_succ]))) | (refine Held.take (i := 4) (v := ?_) rfl (by kernel_rfl) (fun _ _ _ h => h) rfl ?_ ?_; rotate_left; (intro w hS; have hE := hS.1; have hx := HT.out.after hE; have x0 := hx.cell 0; have x1 := hx.cell 1; have x2 := hx.cell 2; have x3 := hx.cell 3; have hy := HN.out.after hE; have y0 := hy.cell 0; have y1 := hy.cell 1; have y2 := hy.cell 2; have y3 := hy.cell 3; simp at x0 x1 x2 x3 y0 y1 y2 y3; go_simp; with_reducible rfl); (try (try simp only [Act.put, List.setIfInBounds_toArray, List.set_cons_zero, List.set_cons_succ]))))
            (first | (refine Held.skip (i := 5) rfl (by kernel_rfl) (fun _ _ _ h => h) rfl ?_; (try (try simp only [Act.put, List.setIfInBounds_toArray, List.set_cons_zero, List.set_cons_succ]))) | (refine Held.take (i := 5) (v := ?_) rfl (by kernel_rfl) (fun _ _ _ h => h) rfl ?_ ?_; rotate_left; (intro w hS; have hE := hS.1; have hx := HT.out.after hE; have x0 := hx.cell 0; have x1 := hx.cell 1; have x2 := hx.cell 2; have x3 := hx.cell 3; have hy := HN.out.after hE; have y0 := hy.cell 0; have y1 := hy.cell 1; have y2 := hy.cell 2; have y3 := hy.cell 3; simp at x0 x1 x2 x3 y0 y1 y2 y3; go_simp; with_reducible rfl); (try (try simp only [Act.put, List.setIfInBounds_toArray, List.set_cons_zero, List.set_cons_succ]))))
            (first | (refine Held.skip (i := 6) rfl (by kernel_rfl) (fun _ _ _ h => h) rfl ?_; (try (try simp only [Act.put, List.setIfInBounds_toArray, List.set_cons_zero, List.set_cons_succ]))) | (refine Held.take (i := 6) (v := ?_) rfl (by kernel_rfl) (fun _ _ _ h => h) rfl ?_ ?_; rotate_left; (intro w hS; have hE := hS.1; have hx := HT.out.after hE; have x0 := hx.cell 0; have x1 := hx.cell 1; have x2 := hx.cell 2; have x3 := hx.cell 3; have hy := HN.out.after hE; have y0 := hy.cell 0; have y1 := hy.cell 1; have y2 := hy.cell 2; have y3 := hy.cell 3; simp at x0 x1 x2 x3 y0 y1 y2 y3; go_simp; with_reducible rfl); (try (try simp only [Act.put, List.setIfInBounds_toArray, List.set_cons_zero, List.set_cons_succ]))))
            (first | (refine Held.skip (i := 7) rfl (by kernel_rfl) (fun _ _ _ h => h) rfl ?_; (try (try simp only [Act.put, List.setIfInBounds_toArray, List.set_cons_zero, List.set_cons_succ]))) | (refine Held.take (i := 7) (v := ?_) rfl (by kernel_rfl) (fun _ _ _ h => h) rfl ?_ ?_; rotate_left; (intro w hS; have hE := hS.1; have hx := HT.out.after hE; have x0 := hx.cell 0; have x1 := hx.cell 1; have x2 := hx.cell 2; have x3 := hx.cell 3; have hy := HN.out.after hE; have y0 := hy.cell 0; have y1 := hy.cell 1; have y2 := hy.cell 2; have y3 := hy.cell 3; simp at x0 x1 x2 x3 y0 y1 y2 y3; go_simp; with_reducible rfl); (try (try simp only [Act.put, List.setIfInBounds_toArray, List.set_cons_zero, List.set_cons_succ]))))
            refine Held.one (i := 10) (by kernel_rfl) ?_
            · refine HeldOp.step (i := 10) rfl rfl ?_
              intro wcx hSc
              obtain ⟨c0, c1, c2, c3, hblk⟩ := hSc.2.1
              refine ⟨undef, ((((wcx.setCell ⟨g8, 0, none⟩ (.int .u64 (wd q 0 : Nat))).setCell ⟨g8, 1, none⟩ (.int .u64 (wd q 1 : Nat))).setCell ⟨g8, 2, none⟩ (.int .u64 (wd q 2 : Nat))).setCell ⟨g8, 3, none⟩ (.int .u64 (wd q 3 : Nat))), .inr ⟨?_, rfl⟩, (fun w' => Ext w6 w' ∧ IsBlk w' g8 25 #[.int .u64 (wd q 0 : Nat), .int .u64 (wd q 1 : Nat), .int .u64 (wd q 2 : Nat), .int .u64 (wd q 3 : Nat)] ∧ Four w' g9), ⟨bel4 hSc.1 hg8, stored4 hblk, Four.far4 (hSc.2.2) (by omega)⟩, fun w h => ⟨h.1, ⟨_, _, _, _, h.2.1⟩, h.2.2⟩, ?_⟩
              · have b0 := hblk.cell 0
                have b1 := hblk.cell 1
                have b2 := hblk.cell 2
                have b3 := hblk.cell 3
                simp at b0 b1 b2 b3
                have frb := hblk.free
                have ltb := hblk.lt
                go_simp
              clear hSc hblk
              (try simp only [Act.put, List.setIfInBounds_toArray, List.set_cons_zero, List.set_cons_succ])
              refine Held.one (i := 11) (by kernel_rfl) ?_
              · refine HeldOp.step (i := 11) rfl rfl ?_
                intro wcx hSc
                obtain ⟨c0, c1, c2, c3, hblk⟩ := hSc.2.2
                refine ⟨undef, ((((wcx.setCell ⟨g9, 0, none⟩ (.int .u64 (wd r 0 : Nat))).setCell ⟨g9, 1, none⟩ (.int .u64 (wd r 1 : Nat))).setCell ⟨g9, 2, none⟩ (.int .u64 (wd r 2 : Nat))).setCell ⟨g9, 3, none⟩ (.int .u64 (wd r 3 : Nat))), .inr ⟨?_, rfl⟩, (fun w' => Ext w6 w' ∧ IsBlk w' g8 25 #[.int .u64 (wd q 0 : Nat), .int .u64 (wd q 1 : Nat), .int .u64 (wd q 2 : Nat), .int .u64 (wd q 3 : Nat)] ∧ IsBlk w' g9 25 #[.int .u64 (wd r 0 : Nat), .int .u64 (wd r 1 : Nat), .int .u64 (wd r 2 : Nat), .int .u64 (wd r 3 : Nat)]), ⟨bel4 hSc.1 hg9, far4 (hSc.2.1) (by omega), stored4 hblk⟩, fun w h => ⟨h.1, h.2.1, ⟨_, _, _, _, h.2.2⟩⟩, ?_⟩
                · have b0 := hblk.cell 0
                  have b1 := hblk.cell 1
                  have b2 := hblk.cell 2
                  have b3 := hblk.cell 3
                  simp at b0 b1 b2 b3
                  have frb := hblk.free
                  have ltb := hblk.lt
                  go_simp
                clear hSc hblk
                (try simp only [Act.put, List.setIfInBounds_toArray, List.set_cons_zero, List.set_cons_succ])
                (first | (refine Held.skip (i := 12) rfl (by kernel_rfl) (fun _ _ _ h => h) rfl ?_; (try (try simp only [Act.put, List.setIfInBounds_toArray, List.set_cons_zero, List.set_cons_succ]))) | (refine Held.take (i := 12) (v := ?_) rfl (by kernel_rfl) (fun _ _ _ h => h) rfl ?_ ?_; rotate_left; (intro w hS; have hE := hS.1; have hx := HT.out.after hE; have x0 := hx.cell 0; have x1 := hx.cell 1; have x2 := hx.cell 2; have x3 := hx.cell 3; have hy := HN.out.after hE; have y0 := hy.cell 0; have y1 := hy.cell 1; have y2 := hy.cell 2; have y3 := hy.cell 3; simp at x0 x1 x2 x3 y0 y1 y2 y3; go_simp; with_reducible rfl); (try (try simp only [Act.put, List.setIfInBounds_toArray, List.set_cons_zero, List.set_cons_succ]))))
                refine Held.done (by kernel_rfl) ?_
                intro wz hz
                have hne : g8 ≠ g9 := by omega
                go_wp2_with fail
                go_meet
                exact ⟨g8, g9, rfl, rfl, hg8, hz.1, hz.2.1⟩
  case rest =>
    obtain ⟨g8, g9, rfl, rfl, hg8, hx6, h8⟩ := hcut
    have hI6 := HI.out.after hx6
    have hO6 := HO.out.after hx6
    have hB6 := bel_on HB.out hx6
    have x0 := h8.cell 0
    have x1 := h8.cell 1
    have x2 := h8.cell 2
    have x3 := h8.cell 3
    simp at x0 x1 x2 x3
    have frx := h8.free
    have y0 := hI6.cell 0
    have y1 := hI6.cell 1
    have y2 := hI6.cell 2
    have y3 := hI6.cell 3
    simp at y0 y1 y2 y3
    have fry := hI6.free
    have lx := h8.lt
    have ly := hI6.lt
    have HO6 := Lib.hid hO6
    have HB6 := Lib.hid hB6
    clear hx6 h8 hI6 hO6 hB6
    go_wp2_with fail
    refine (K6.out _).mono ?_
    rintro e7 w7 ⟨rfl, hb7⟩
    have hO7 := HO6.out.after hb7
    have hB7 := bel_on HB6.out hb7
    clear x0 x1 x2 x3 frx lx y0 y1 y2 y3 fry ly hb7
    have z0 := hO7.cell 0
    have z1 := hO7.cell 1
    have z2 := hO7.cell 2
    have z3 := hO7.cell 3
    simp at z0 z1 z2 z3
    have frz := hO7.free
    have lz := hO7.lt
    have HO7 := Lib.hid hO7
    have HB7 := Lib.hid hB7
    clear hO7 hB7
    go_wp2_with fail
    have zz := ((((HO7.out.put 0 (.int .u64 (wd F 0 : Nat))).put 1 (.int .u64 (wd F 1 : Nat))).put 2 (.int .u64 (wd F 2 : Nat))).put 3 (.int .u64 (wd F 3 : Nat))).alloc (.cells #[.int .u64 (wd F 0 : Nat), .int .u64 (wd F 1 : Nat), .int .u64 (wd F 2 : Nat), .int .u64 (wd F 3 : Nat)] 25)
    have q0 := zz.cell 0
    have q1 := zz.cell 1
    have q2 := zz.cell 2
    have q3 := zz.cell 3
    simp at q0 q1 q2 q3
    refine bodyPost_ret (v := .agg #[.int .u64 (wd F 0 : Nat), .int .u64 (wd F 1 : Nat), .int .u64 (wd F 2 : Nat), .int .u64 (wd F 3 : Nat)]) ?_ rfl ⟨rfl, ?_⟩
    · simp [results, Try.results17, go_sem, q0, q1, q2, q3]
    · exact bel_al (bel4 HB7.out (by omega)) _

set_option maxRecDepth 100000 in
set_option maxHeartbeats 8000000 in
theorem work_none (c T : Nat) (w : World)
    (K1 : Hid (∀ w, Calls Try.prog 10 #[.int .u32 c] w (BRet (.tuple #[.agg #[.int .u64 (wd T 0 : Nat), .int .u64 (wd T 1 : Nat), .int .u64 (wd T 2 : Nat), .int .u64 (wd T 3 : Nat)], .int .i64 11]) w))) :
    Calls Try.prog 17 #[.int .u32 c] w (BRet (.agg #[.int .u64 0, .int .u64 0, .int .u64 0, .int .u64 0]) w) := by
  go_enter Try.func17, Try.ntmps17
  go_wp2_with fail
  refine (K1.out _).mono ?_
  rintro e w1 ⟨rfl, hb1⟩
  have Ho1 := Lib.hid ((show IsBlk _ (w.heap.size) 25 #[.int .u64 0, .int .u64 0, .int .u64 0, .int .u64 0] from (IsBlk.newAt _ _ rfl)).after hb1)
  have HB1 := Lib.hid ((show Below w.heap.size w _ from by repeat' (first | exact Below.refl _ _ | refine bel_drewN ?_ _ | refine Below.drew ?_ | refine Below.alloc ?_ ?_ _ | refine Below.setCell ?_ ?_ _ | exact Nat.le_refl _ | (simp; done) | (simp; omega) | assumption)).trans (hb1.mono (by simp <;> omega)))
  clear hb1
  have ho := Ho1.out
  have vo0 := ho.cell 0
  have vo1 := ho.cell 1
  have vo2 := ho.cell 2
  have vo3 := ho.cell 3
  simp at vo0 vo1 vo2 vo3
  have frvo := ho.free
  have lvo := ho.lt
  clear ho
  go_wp2_with fail
  have z := (((((Ho1.out.put 0 (.int .u64 0)).put 1 (.int .u64 0)).put 2 (.int .u64 0)).put 3 (.int .u64 0)).alloc (.cells #[.int .u64 (wd T 0 : Nat), .int .u64 (wd T 1 : Nat), .int .u64 (wd T 2 : Nat), .int .u64 (wd T 3 : Nat)] 25))
  have z0 := z.cell 0
  have z1 := z.cell 1
  have z2 := z.cell 2
  have z3 := z.cell 3
  simp at z0 z1 z2 z3
  refine bodyPost_ret (v := .agg #[.int .u64 0, .int .u64 0, .int .u64 0, .int .u64 0]) ?_ rfl ⟨rfl, ?_⟩
  · simp [results, Try.results17, go_sem, z0, z1, z2, z3]
  · exact (bel_al (bel4 HB1.out (by first | omega | (simp; done) | (simp; omega))) _)

theorem work_quot {T : Nat} (h : T + 1 < w256) (h0 : T ≠ 0) : (w256 - 1 - T) / (T + 1) + 1 = w256 / (T + 1) ∧ w256 / (T + 1) < w256 := by
  have e : w256 = (w256 - 1 - T) + (T + 1) := by omega
  have h1 : w256 / (T + 1) = (w256 - 1 - T) / (T + 1) + 1 := by
    conv => lhs; rw [e]
    exact Nat.add_div_right _ (by omega)
  refine ⟨h1.symm, ?_⟩
  exact Nat.div_lt_self (by rw [w256_eq]; decide) (by omega)
theorem work_any (c : Nat) (w : World) (hc : c < 4294967296) : Calls Try.prog 17 #[.int .u32 c] w (BRet (.agg #[.int .u64 (wd (workN c) 0 : Nat), .int .u64 (wd (workN c) 1 : Nat), .int .u64 (wd (workN c) 2 : Nat), .int .u64 (wd (workN c) 3 : Nat)]) w) := by
  have hK := fun w => expand_any c w hc
  have hs := xN_small c
  have hT := xN_lt c
  have l1 : (1 : Nat) < w256 := by rw [w256_eq]; decide
  cases hb : badB c
  · have he : xE c = 0 := (xE_ok c).2 hb
    have h0 := (good_val hb).2
    have hw : workN c = w256 / (xN c + 1) := by unfold workN; rw [hb]; rfl
    rw [he] at hK
    rw [hw]
    generalize xN c = T at *
    obtain ⟨hq, hq2⟩ := work_quot hs h0
    have hN : addN T 1 = T + 1 := Nat.mod_eq_of_lt hs
    have hM : notN T = w256 - 1 - T := rfl
    have hMl := notN_lt T
    have hql : notN T / (T + 1) < w256 := Nat.lt_of_le_of_lt (Nat.div_le_self _ _) hMl
    have hF : addN (notN T / (T + 1)) 1 = w256 / (T + 1) := by unfold addN; rw [hM, hq]; exact Nat.mod_eq_of_lt hq2
    refine work_case c T (T + 1) (notN T) (notN T / (T + 1)) (notN T % (T + 1)) (w256 / (T + 1)) (addOv T 1) (addOv (notN T / (T + 1)) 1) w (Lib.hid hK) (Lib.hid fun w => of_any 1 w) (Lib.hid fun w => ?_) (Lib.hid fun w => not_any T w hT) (Lib.hid fun w => quot_any _ _ w hMl hs (by omega)) (Lib.hid fun w => ?_)
    · have := add_any T 1 w hT l1
      rwa [hN, lit_one] at this
    · have := add_any (notN T / (T + 1)) 1 w hql l1
      rwa [hF, lit_one] at this
  · have he : xE c = 11 := by unfold xE; rw [hb]; rfl
    have hw : workN c = 0 := by unfold workN; rw [hb]; rfl
    rw [he] at hK
    rw [hw, lit_zero]
    exact work_none c (xN c) w (Lib.hid hK)
end Go.Proofs.Ythmaijmjhfngpaa
