/- The reference's products, and quotients by a word. -/
import Derived.Test.YthmaijmjhfngpaaWideZ
import Derived.Test.YthmaijmjhfngpaaMixB
namespace Go.Proofs.Ythmaijmjhfngpaa
open Go.RowKit

theorem small_words {n : Nat} (h : n < 18446744073709551616) : (.agg #[.int .u64 (wd n 0 : Nat), .int .u64 (wd n 1 : Nat), .int .u64 (wd n 2 : Nat), .int .u64 (wd n 3 : Nat)] : Value) = .agg #[.int .u64 (n : Nat), .int .u64 0, .int .u64 0, .int .u64 0] := by
  have h0 : wd n 0 = n := by rw [wd0, two64]; omega
  have h1 : wd n 1 = 0 := by rw [wd1, two64]; omega
  have h2 : wd n 2 = 0 := by rw [wd2, two64, two128]; omega
  have h3 : wd n 3 = 0 := by rw [wd3, two64, two192]; omega
  rw [h0, h1, h2, h3]
  rfl
theorem small_lt {n : Nat} (h : n < 18446744073709551616) : n < w256 := by rw [w256_eq]; omega

set_option maxRecDepth 100000 in
set_option maxHeartbeats 2000000 in
theorem refQuot_zero (a : Nat) (w : World) : Calls Try.prog 40 #[.agg #[.int .u64 (wd a 0 : Nat), .int .u64 (wd a 1 : Nat), .int .u64 (wd a 2 : Nat), .int .u64 (wd a 3 : Nat)], .agg #[.int .u64 0, .int .u64 0, .int .u64 0, .int .u64 0]] w (BRet (.tuple #[.agg #[.int .u64 0, .int .u64 0, .int .u64 0, .int .u64 0], .agg #[.int .u64 0, .int .u64 0, .int .u64 0, .int .u64 0], .int .i64 2]) w) := by
  have KB := Lib.hid (fun w => refBits_any 0 w (by rw [w256_eq]; decide))
  rw [bitsN_zero, lit_zero] at KB
  go_enter Try.func40, Try.ntmps40
  go_wp2_with fail
  refine (KB.out _).mono ?_
  rintro e w1 ⟨rfl, hb1⟩
  have hQ := (show IsBlk _ (w.heap.size + 1 + 1) 25 #[.int .u64 0, .int .u64 0, .int .u64 0, .int .u64 0] from (((IsBlk.newAt _ _ (by simp)).alloc _).alloc _).alloc _).after hb1
  have hR := (show IsBlk _ (w.heap.size + 1 + 1 + 1) 25 #[.int .u64 0, .int .u64 0, .int .u64 0, .int .u64 0] from ((IsBlk.newAt _ _ (by simp)).alloc _).alloc _).after hb1
  have hY := (show IsBlk _ (w.heap.size + 1 + 1 + 1 + 1) 25 #[.int .u64 0, .int .u64 0, .int .u64 0, .int .u64 0] from (IsBlk.newAt _ _ (by simp)).alloc _).after hb1
  have hV := (show IsBlk _ (w.heap.size + 1 + 1 + 1 + 1 + 1) 25 #[.int .u64 0, .int .u64 0, .int .u64 0, .int .u64 0] from IsBlk.newAt _ _ (by simp)).after hb1
  have hB := (show Below w.heap.size w _ from by repeat' (first | exact Below.refl _ _ | refine bel_drewN ?_ _ | refine Below.drew ?_ | refine Below.alloc ?_ ?_ _ | refine Below.setCell ?_ ?_ _ | exact Nat.le_refl _ | (simp; done) | (simp; omega) | assumption)).trans (hb1.mono (by simp <;> omega))
  have q0 := hQ.cell 0
  have q1 := hQ.cell 1
  have q2 := hQ.cell 2
  have q3 := hQ.cell 3
  simp at q0 q1 q2 q3
  have frq := hQ.free
  have r0 := hR.cell 0
  have r1 := hR.cell 1
  have r2 := hR.cell 2
  have r3 := hR.cell 3
  simp at r0 r1 r2 r3
  have frr := hR.free
  have y0 := hY.cell 0
  have y1 := hY.cell 1
  have y2 := hY.cell 2
  have y3 := hY.cell 3
  simp at y0 y1 y2 y3
  have fry := hY.free
  have v0 := hV.cell 0
  have v1 := hV.cell 1
  have v2 := hV.cell 2
  have v3 := hV.cell 3
  simp at v0 v1 v2 v3
  have frv := hV.free
  have ly := hY.lt
  have lv := hV.lt
  have HQ := Lib.hid hQ
  have HR := Lib.hid hR
  have HB := Lib.hid hB
  clear hQ hR hY hV hB hb1
  go_wp2_with fail
  go_region
  go_wp2_with fail
  all_goals
    have fq := (far4 (g' := w.heap.size + 1 + 1 + 1) (v0 := .int .u64 0) (v1 := .int .u64 0) (v2 := .int .u64 0) (v3 := .int .u64 0) (stored4 (v0 := .int .u64 0) (v1 := .int .u64 0) (v2 := .int .u64 0) (v3 := .int .u64 0) HQ.out) (by omega)).drew
    have fr := (stored4 (v0 := .int .u64 0) (v1 := .int .u64 0) (v2 := .int .u64 0) (v3 := .int .u64 0) (far4 (g' := w.heap.size + 1 + 1) (v0 := .int .u64 0) (v1 := .int .u64 0) (v2 := .int .u64 0) (v3 := .int .u64 0) HR.out (by omega))).drew
    have a0 := fq.cell 0
    have a1 := fq.cell 1
    have a2 := fq.cell 2
    have a3 := fq.cell 3
    have b0 := fr.cell 0
    have b1 := fr.cell 1
    have b2 := fr.cell 2
    have b3 := fr.cell 3
    simp at a0 a1 a2 a3 b0 b1 b2 b3
    exact bodyPost_ret (v := .tuple #[.agg #[.int .u64 0, .int .u64 0, .int .u64 0, .int .u64 0], .agg #[.int .u64 0, .int .u64 0, .int .u64 0, .int .u64 0], .int .i64 2]) (by simp [results, Try.results40, go_sem, a0, a1, a2, a3, b0, b1, b2, b3]) rfl ⟨rfl, (bel4 (bel4 HB.out (by omega)) (by omega)).drew⟩

set_option maxRecDepth 100000 in
set_option maxHeartbeats 4000000 in
theorem refDiv_case (a n q r : Nat) (x : Int) (w : World)
    (K : Hid (∀ w, Calls Try.prog 40 #[.agg #[.int .u64 (wd a 0 : Nat), .int .u64 (wd a 1 : Nat), .int .u64 (wd a 2 : Nat), .int .u64 (wd a 3 : Nat)], .agg #[.int .u64 n, .int .u64 0, .int .u64 0, .int .u64 0]] w (BRet (.tuple #[.agg #[.int .u64 (wd q 0 : Nat), .int .u64 (wd q 1 : Nat), .int .u64 (wd q 2 : Nat), .int .u64 (wd q 3 : Nat)], .agg #[.int .u64 r, .int .u64 0, .int .u64 0, .int .u64 0], .int .i64 x]) w))) :
    Calls Try.prog 47 #[.agg #[.int .u64 (wd a 0 : Nat), .int .u64 (wd a 1 : Nat), .int .u64 (wd a 2 : Nat), .int .u64 (wd a 3 : Nat)], .int .u64 n] w (BRet (.tuple #[.agg #[.int .u64 (wd q 0 : Nat), .int .u64 (wd q 1 : Nat), .int .u64 (wd q 2 : Nat), .int .u64 (wd q 3 : Nat)], .int .u64 (r : Nat), .int .i64 x]) w) := by
  go_enter Try.func47, Try.ntmps47
  go_wp2_with fail
  refine (K.out _).mono ?_
  rintro e w1 ⟨rfl, hb1⟩
  have hO := (show IsBlk _ (w.heap.size + 1) 25 #[.int .u64 0, .int .u64 0, .int .u64 0, .int .u64 0] from IsBlk.newAt _ _ (by simp)).after hb1
  have hB := (show Below w.heap.size w _ from by repeat' (first | exact Below.refl _ _ | refine bel_drewN ?_ _ | refine Below.drew ?_ | refine Below.alloc ?_ ?_ _ | refine Below.setCell ?_ ?_ _ | exact Nat.le_refl _ | (simp; done) | (simp; omega) | assumption)).trans (hb1.mono (by simp <;> omega))
  have lo := hO.lt
  have o0 := hO.cell 0
  have o1 := hO.cell 1
  have o2 := hO.cell 2
  have o3 := hO.cell 3
  simp at o0 o1 o2 o3
  have fro := hO.free
  have HO := Lib.hid hO
  have HB := Lib.hid hB
  clear hO hB hb1
  go_wp2_with fail
  refine wp_gen (fun w' => IsBlk w' (w.heap.size + 1) 25 #[.int .u64 0, .int .u64 0, .int .u64 0, .int .u64 0] ∧ IsBlk w' w1.heap.size 25 #[.int .u64 (wd q 0 : Nat), .int .u64 (wd q 1 : Nat), .int .u64 (wd q 2 : Nat), .int .u64 (wd q 3 : Nat)] ∧
    IsBlk w' (w1.heap.size + 1) 25 #[.int .u64 r, .int .u64 0, .int .u64 0, .int .u64 0] ∧ Below w.heap.size w w') ⟨(HO.out.alloc _).alloc _, (IsBlk.newAt _ _ rfl).alloc _, IsBlk.newAt _ _ (by simp), (HB.out.alloc HB.out.size _).alloc (Nat.le_trans HB.out.size (by simp)) _⟩ ?_
  clear o0 o1 o2 o3 fro HO HB
  rintro w2 ⟨hO, hQ, hR, hB⟩
  generalize w1.heap.size = g1 at *
  have o0 := hO.cell 0
  have o1 := hO.cell 1
  have o2 := hO.cell 2
  have o3 := hO.cell 3
  simp at o0 o1 o2 o3
  have fro := hO.free
  have q0 := hQ.cell 0
  have q1 := hQ.cell 1
  have q2 := hQ.cell 2
  have q3 := hQ.cell 3
  simp at q0 q1 q2 q3
  have frq := hQ.free
  have r0 := hR.cell 0
  have r1 := hR.cell 1
  have r2 := hR.cell 2
  have r3 := hR.cell 3
  simp at r0 r1 r2 r3
  have frr := hR.free
  have lq := hQ.lt
  have lr := hR.lt
  have lo2 := hO.lt
  have HO := Lib.hid hO
  have HB := Lib.hid hB
  clear hO hQ hR hB
  go_region
  go_wp2_with fail
  all_goals
    have fq := (stored4 (v0 := .int .u64 (wd q 0 : Nat)) (v1 := .int .u64 (wd q 1 : Nat)) (v2 := .int .u64 (wd q 2 : Nat)) (v3 := .int .u64 (wd q 3 : Nat)) HO.out).drew
    have a0 := fq.cell 0
    have a1 := fq.cell 1
    have a2 := fq.cell 2
    have a3 := fq.cell 3
    simp at a0 a1 a2 a3
    exact bodyPost_ret (v := .tuple #[.agg #[.int .u64 (wd q 0 : Nat), .int .u64 (wd q 1 : Nat), .int .u64 (wd q 2 : Nat), .int .u64 (wd q 3 : Nat)], .int .u64 (r : Nat), .int .i64 x]) (by simp [results, Try.results47, go_sem, a0, a1, a2, a3]) rfl ⟨rfl, (bel4 HB.out (by omega)).drew⟩
theorem refDiv_any (a n : Nat) (w : World) (ha : a < w256) (hn : n < 18446744073709551616) (hn0 : 0 < n) :
    Calls Try.prog 47 #[.agg #[.int .u64 (wd a 0 : Nat), .int .u64 (wd a 1 : Nat), .int .u64 (wd a 2 : Nat), .int .u64 (wd a 3 : Nat)], .int .u64 n] w (BRet (.tuple #[.agg #[.int .u64 (wd (a / n) 0 : Nat), .int .u64 (wd (a / n) 1 : Nat), .int .u64 (wd (a / n) 2 : Nat), .int .u64 (wd (a / n) 3 : Nat)], .int .u64 (a % n : Nat), .int .i64 0]) w) := by
  refine refDiv_case a n (a / n) (a % n) 0 w (Lib.hid fun w => ?_)
  have := refQuot_any a n w ha (small_lt hn) (by omega)
  rwa [small_words hn, small_words (Nat.lt_trans (Nat.mod_lt a hn0) hn)] at this
theorem refDiv_zero (a : Nat) (w : World) :
    Calls Try.prog 47 #[.agg #[.int .u64 (wd a 0 : Nat), .int .u64 (wd a 1 : Nat), .int .u64 (wd a 2 : Nat), .int .u64 (wd a 3 : Nat)], .int .u64 0] w (BRet (.tuple #[.agg #[.int .u64 0, .int .u64 0, .int .u64 0, .int .u64 0], .int .u64 0, .int .i64 2]) w) := by
  have := refDiv_case a 0 0 0 2 w (Lib.hid fun w => by rw [lit_zero]; exact refQuot_zero a w)
  rwa [lit_zero] at this

/-- A block of four cells of some sort. -/
def Four (w : World) (g : Nat) : Prop := ∃ c0 c1 c2 c3, IsBlk w g 25 #[c0, c1, c2, c3]

theorem Four.on {w w' : World} {g : Nat} (h : Four w g) (hb : Below w.heap.size w w') : Four w' g := by
  obtain ⟨c0, c1, c2, c3, hx⟩ := h
  exact ⟨c0, c1, c2, c3, hx.after hb⟩
theorem Four.lt {w : World} {g : Nat} (h : Four w g) : g < w.heap.size := by
  obtain ⟨_, _, _, _, hx⟩ := h
  exact hx.lt
theorem Four.alloc {w : World} {g : Nat} (h : Four w g) (o : Obj) : Four (w.alloc o) g := by
  obtain ⟨c0, c1, c2, c3, hx⟩ := h
  exact ⟨c0, c1, c2, c3, hx.alloc o⟩
theorem Four.far4 {w : World} {g g' : Nat} {v0 v1 v2 v3 : Value} (h : Four w g) (hne : g ≠ g') : Four ((((w.setCell ⟨g', 0, none⟩ v0).setCell ⟨g', 1, none⟩ v1).setCell ⟨g', 2, none⟩ v2).setCell ⟨g', 3, none⟩ v3) g := by
  obtain ⟨c0, c1, c2, c3, hx⟩ := h
  exact ⟨c0, c1, c2, c3, Go.Proofs.Ythmaijmjhfngpaa.far4 hx hne⟩
def SA (w : World) (g : Nat) (w' : World) : Prop := Ext w w' ∧ Four w' g

set_option maxRecDepth 100000 in
set_option maxHeartbeats 4000000 in
theorem refMul_any (a n : Nat) (w : World) (ha : a < w256) (hn : n < 18446744073709551616) :
    Calls Try.prog 32 #[.agg #[.int .u64 (wd a 0 : Nat), .int .u64 (wd a 1 : Nat), .int .u64 (wd a 2 : Nat), .int .u64 (wd a 3 : Nat)], .int .u64 n] w (BRet (.tuple #[.agg #[.int .u64 (wd (mulN a n) 0 : Nat), .int .u64 (wd (mulN a n) 1 : Nat), .int .u64 (wd (mulN a n) 2 : Nat), .int .u64 (wd (mulN a n) 3 : Nat)], .int .u64 (mulOv a n : Nat)]) w) := by
  have e0 : accN a n 0 % w256 = 0 := by rw [accN_zero]; simp
  have e1 : accN a n 0 / w256 = 0 := by rw [accN_zero]; simp
  have f0 : accN a n 64 % w256 = mulN a n := by rw [accN_all a (by rw [two64]; exact hn)]; rfl
  have f1 : accN a n 64 / w256 = mulOv a n := by rw [accN_all a (by rw [two64]; exact hn)]; rfl
  have E0 := Lib.hid e0
  have E1 := Lib.hid e1
  have F0 := Lib.hid f0
  have F1 := Lib.hid f1
  clear e0 e1 f0 f1
  go_enter Try.func32, Try.ntmps32
  go_wp2_with fail
  go_loopw [7, 8] (fun v i wr => ∃ k : Nat, k ≤ 64 ∧ i = .int .i64 k ∧ v = .int .u64 (accN a n k / w256 : Nat) ∧
    IsBlk wr w.heap.size 25 #[.int .u64 (wd a 0 : Nat), .int .u64 (wd a 1 : Nat), .int .u64 (wd a 2 : Nat), .int .u64 (wd a 3 : Nat)] ∧
    IsBlk wr (w.heap.size + 1) 25 #[.int .u64 0, .int .u64 0, .int .u64 0, .int .u64 0] ∧
    IsBlk wr (w.heap.size + 1 + 1) 25 #[.int .u64 (wd (accN a n k % w256) 0 : Nat), .int .u64 (wd (accN a n k % w256) 1 : Nat), .int .u64 (wd (accN a n k % w256) 2 : Nat), .int .u64 (wd (accN a n k % w256) 3 : Nat)] ∧
    Below w.heap.size w wr) (fun _ i _ => 64 - (intOf i).toNat)
  case atStart => 
    refine ⟨0, by omega, rfl, by rw [E1.out]; rfl, ((IsBlk.newAt _ _ rfl).alloc _).alloc _, (IsBlk.newAt _ _ (by simp)).alloc _, ?_, by repeat' (first | exact Below.refl _ _ | refine bel_drewN ?_ _ | refine Below.drew ?_ | refine Below.alloc ?_ ?_ _ | refine Below.setCell ?_ ?_ _ | exact Nat.le_refl _ | (simp; done) | (simp; omega) | assumption)⟩
    rw [E0.out, ← zeros_blk]
    exact IsBlk.newAt _ _ (by simp)
  case round =>
    obtain ⟨k, hk, rfl, rfl, hA, hZ, hO, hB⟩ := hrel
    by_cases hlt : k < 64
    · have hw : IntKind.u64.wrap (k : Int) = k := IntWalk.u64_in _ (by omega)
      have hbit : bits .and .u64 ((n : Int) / 2 ^ k) 1 = (((n.testBit k).toNat : Nat) : Int) := by
        have := bit_of_word (a := n) (q := 0) hlt
        rwa [wd0, two64, Nat.mod_eq_of_lt hn, Nat.mul_zero, Nat.zero_add] at this
      cases hb : n.testBit k
      · rw [hb] at hbit
        have hE := accN_no a hb
        have HE := Lib.hid hE
        have HA := Lib.hid hA
        have HZ := Lib.hid hZ
        have HO := Lib.hid hO
        have HB := Lib.hid hB
        clear hE hA hZ hO hB hb
        go_wp2_with fail
        exact ⟨⟨k + 1, by omega, by go_num, by rw [HE.out], HA.out, HZ.out, by rw [HE.out]; exact HO.out, HB.out⟩, by simp [intOf]; omega⟩
      · rw [hb] at hbit
        have hst := acc_step ha (by rw [two64]; exact hn) hb
        have hhw := high_word ha hlt
        have HST := Lib.hid hst
        have HHW := Lib.hid hhw
        clear hst hhw
        have HX := Lib.hid (show accN a n k % w256 < w256 from Nat.mod_lt _ (by rw [w256_eq]; decide))
        generalize accN a n k % w256 = X at *
        have hcl := hA.lt
        have hol := hO.lt
        have KS := Lib.hid (fun w => refShift_any a (k : Int) w ha)
        have KH := Lib.hid (fun w => refShift_any a ((k : Int) - 256) w ha)
        go_wp2_with fail
        have HA := Lib.hid hA
        have HZ := Lib.hid hZ
        have HO := Lib.hid hO
        have HB := Lib.hid hB
        have KA := Lib.hid (fun w => refAdd_any X (shiftN a (k : Int)) w HX.out (shiftN_lt ha _))
        clear hA hZ hO hB
        generalize hY : addN X (shiftN a (k : Int)) = Y at *
        generalize hMo : addOv X (shiftN a (k : Int)) = mo at *
        clear hMo
        have hVL : accN a n (k + 1) / w256 < 18446744073709551616 := over_lt ha (by rw [two64]; exact hn)
        generalize hV2 : accN a n (k + 1) / w256 = V2 at *
        generalize accN a n k / w256 = V at *
        generalize a * 2 ^ k / w256 = hi at *
        have HVL := Lib.hid hVL
        have HV2 := Lib.hid hV2
        clear hVL hV2 hY hb
        refine Held.start 11 (Ext wr) (by kernel_rfl) rfl (Below.refl _ _).drew ?_
        (first | (refine Held.skip (i := 0) rfl (by kernel_rfl) (fun _ _ _ h => h) rfl ?_; (try simp only [Act.put, List.setIfInBounds_toArray, List.set_cons_zero, List.set_cons_succ])) | (refine Held.take (i := 0) (v := ?_) rfl (by kernel_rfl) (fun _ _ _ h => h) rfl ?_ ?_; rotate_left; (intro w hS; have hx := HA.out.after hS; have x0 := hx.cell 0; have x1 := hx.cell 1; have x2 := hx.cell 2; have x3 := hx.cell 3; have hy := HO.out.after hS; have y0 := hy.cell 0; have y1 := hy.cell 1; have y2 := hy.cell 2; have y3 := hy.cell 3; simp at x0 x1 x2 x3 y0 y1 y2 y3; go_simp; with_reducible rfl); (try simp only [Act.put, List.setIfInBounds_toArray, List.set_cons_zero, List.set_cons_succ])))
        (first | (refine Held.skip (i := 1) rfl (by kernel_rfl) (fun _ _ _ h => h) rfl ?_; (try simp only [Act.put, List.setIfInBounds_toArray, List.set_cons_zero, List.set_cons_succ])) | (refine Held.take (i := 1) (v := ?_) rfl (by kernel_rfl) (fun _ _ _ h => h) rfl ?_ ?_; rotate_left; (intro w hS; have hx := HA.out.after hS; have x0 := hx.cell 0; have x1 := hx.cell 1; have x2 := hx.cell 2; have x3 := hx.cell 3; have hy := HO.out.after hS; have y0 := hy.cell 0; have y1 := hy.cell 1; have y2 := hy.cell 2; have y3 := hy.cell 3; simp at x0 x1 x2 x3 y0 y1 y2 y3; go_simp; with_reducible rfl); (try simp only [Act.put, List.setIfInBounds_toArray, List.set_cons_zero, List.set_cons_succ])))
        (first | (refine Held.skip (i := 2) rfl (by kernel_rfl) (fun _ _ _ h => h) rfl ?_; (try simp only [Act.put, List.setIfInBounds_toArray, List.set_cons_zero, List.set_cons_succ])) | (refine Held.take (i := 2) (v := ?_) rfl (by kernel_rfl) (fun _ _ _ h => h) rfl ?_ ?_; rotate_left; (intro w hS; have hx := HA.out.after hS; have x0 := hx.cell 0; have x1 := hx.cell 1; have x2 := hx.cell 2; have x3 := hx.cell 3; have hy := HO.out.after hS; have y0 := hy.cell 0; have y1 := hy.cell 1; have y2 := hy.cell 2; have y3 := hy.cell 3; simp at x0 x1 x2 x3 y0 y1 y2 y3; go_simp; with_reducible rfl); (try simp only [Act.put, List.setIfInBounds_toArray, List.set_cons_zero, List.set_cons_succ])))
        refine Held.two (i := 3) (j := 8) (by kernel_rfl) ?_ ?_
        · refine HeldOp.call (i := 3) (f := ?_) (args := ?_) rfl rfl ?_ ?_
          rotate_left 2
          · (intro w hS; go_simp; (first | with_reducible rfl | (refine ⟨?_, ?_⟩ <;> with_reducible rfl)))
          intro wc hSc
          refine (KS.out _).mono ?_
          rintro e vc ⟨rfl, hb⟩
          refine ⟨_, rfl, Ext wr, bel_on hSc hb, fun w h => h, ?_⟩
          clear hSc hb
          (try simp only [Act.put, List.setIfInBounds_toArray, List.set_cons_zero, List.set_cons_succ])
          refine Held.two (i := 4) (j := 8) (by kernel_rfl) ?_ ?_
          · refine HeldOp.call (i := 4) (f := ?_) (args := ?_) rfl rfl ?_ ?_
            rotate_left 2
            · (intro w hS; go_simp; (first | with_reducible rfl | (refine ⟨?_, ?_⟩ <;> with_reducible rfl)))
            intro wc hSc
            refine (KA.out _).mono ?_
            rintro e vc ⟨rfl, hb⟩
            refine ⟨_, rfl, Ext wr, bel_on hSc hb, fun w h => h, ?_⟩
            clear hSc hb
            (try simp only [Act.put, List.setIfInBounds_toArray, List.set_cons_zero, List.set_cons_succ])
            (first | (refine Held.skip (i := 5) rfl (by kernel_rfl) (fun _ _ _ h => h) rfl ?_; (try simp only [Act.put, List.setIfInBounds_toArray, List.set_cons_zero, List.set_cons_succ])) | (refine Held.take (i := 5) (v := ?_) rfl (by kernel_rfl) (fun _ _ _ h => h) rfl ?_ ?_; rotate_left; (intro w hS; skip; go_simp; with_reducible rfl); (try simp only [Act.put, List.setIfInBounds_toArray, List.set_cons_zero, List.set_cons_succ])))
            (first | (refine Held.skip (i := 6) rfl (by kernel_rfl) (fun _ _ _ h => h) rfl ?_; (try simp only [Act.put, List.setIfInBounds_toArray, List.set_cons_zero, List.set_cons_succ])) | (refine Held.take (i := 6) (v := ?_) rfl (by kernel_rfl) (fun _ _ _ h => h) rfl ?_ ?_; rotate_left; (intro w hS; skip; go_simp; with_reducible rfl); (try simp only [Act.put, List.setIfInBounds_toArray, List.set_cons_zero, List.set_cons_succ])))
            (first | (refine Held.skip (i := 7) rfl (by kernel_rfl) (fun _ _ _ h => h) rfl ?_; (try simp only [Act.put, List.setIfInBounds_toArray, List.set_cons_zero, List.set_cons_succ])) | (refine Held.take (i := 7) (v := ?_) rfl (by kernel_rfl) (fun _ _ _ h => h) rfl ?_ ?_; rotate_left; (intro w hS; skip; go_simp; with_reducible rfl); (try simp only [Act.put, List.setIfInBounds_toArray, List.set_cons_zero, List.set_cons_succ])))
            refine Held.one (i := 8) (by kernel_rfl) ?_
            refine HeldOp.step (i := 8) rfl rfl ?_
            intro wc hSc
            have hgc : wr.heap.size ≤ wc.heap.size := hSc.size
            refine ⟨.pointer (some ⟨wc.heap.size, 0, none⟩), wc.alloc (.cells #[.int .u64 0, .int .u64 0, .int .u64 0, .int .u64 0] 25), .inl (by go_simp), SA wr wc.heap.size, ⟨hSc.alloc hSc.size _, _, _, _, _, IsBlk.new _ _ _⟩, fun w h => h.1, ?_⟩
            generalize wc.heap.size = g at *
            clear hSc
            (try simp only [Act.put, List.setIfInBounds_toArray, List.set_cons_zero, List.set_cons_succ])
            refine Held.one (i := 9) (by kernel_rfl) ?_
            refine HeldOp.step (i := 9) rfl rfl ?_
            intro wc hSc
            obtain ⟨hx, c0, c1, c2, c3, hblk⟩ := hSc
            refine ⟨undef, (((wc.setCell ⟨g, 0, none⟩ (.int .u64 (wd Y 0 : Nat))).setCell ⟨g, 1, none⟩ (.int .u64 (wd Y 1 : Nat))).setCell ⟨g, 2, none⟩ (.int .u64 (wd Y 2 : Nat))).setCell ⟨g, 3, none⟩ (.int .u64 (wd Y 3 : Nat)), ?_, fun w' => Ext wr w' ∧ IsBlk w' g 25 #[.int .u64 (wd Y 0 : Nat), .int .u64 (wd Y 1 : Nat), .int .u64 (wd Y 2 : Nat), .int .u64 (wd Y 3 : Nat)], ⟨bel4 hx hgc, stored4 hblk⟩, fun w h => ⟨h.1, _, _, _, _, h.2⟩, ?_⟩
            · right
              have b0 := hblk.cell 0
              have b1 := hblk.cell 1
              have b2 := hblk.cell 2
              have b3 := hblk.cell 3
              simp at b0 b1 b2 b3
              have frb := hblk.free
              have ltb := hblk.lt
              go_simp
            (try simp only [Act.put, List.setIfInBounds_toArray, List.set_cons_zero, List.set_cons_succ])
            (first | (refine Held.skip (i := 10) rfl (by kernel_rfl) (fun _ _ _ h => h) rfl ?_; (try simp only [Act.put, List.setIfInBounds_toArray, List.set_cons_zero, List.set_cons_succ])) | (refine Held.take (i := 10) (v := ?_) rfl (by kernel_rfl) (fun _ _ _ h => h) rfl ?_ ?_; rotate_left; (intro w hS; skip; go_simp; with_reducible rfl); (try simp only [Act.put, List.setIfInBounds_toArray, List.set_cons_zero, List.set_cons_succ])))
            refine Held.done (by kernel_rfl) ?_
            intro wz hz
            obtain ⟨hzx, hzb⟩ := hz
            have hA := HA.out.after hzx
            have hZ := HZ.out.after hzx
            have hO := HO.out.after hzx
            have hB := bel_on HB.out hzx
            have hn1 : g ≠ w.heap.size := by omega
            have hn2 : g ≠ w.heap.size + 1 + 1 := by omega
            clear hx hblk hgc hcl hol hzx
            have z0 := hzb.cell 0
            have z1 := hzb.cell 1
            have z2 := hzb.cell 2
            have z3 := hzb.cell 3
            simp at z0 z1 z2 z3
            have frz := hzb.free
            have x0 := hA.cell 0
            have x1 := hA.cell 1
            have x2 := hA.cell 2
            have x3 := hA.cell 3
            simp at x0 x1 x2 x3
            have frx := hA.free
            have y0 := hO.cell 0
            have y1 := hO.cell 1
            have y2 := hO.cell 2
            have y3 := hO.cell 3
            simp at y0 y1 y2 y3
            have fry := hO.free
            have lz := hzb.lt
            have lx := hA.lt
            have ly := hO.lt
            go_wp2_with fail
            refine (KH.out _).mono ?_
            rintro e w5 ⟨rfl, hb5⟩
            have hA5 := (far4 (v0 := .int .u64 (wd Y 0 : Nat)) (v1 := .int .u64 (wd Y 1 : Nat)) (v2 := .int .u64 (wd Y 2 : Nat)) (v3 := .int .u64 (wd Y 3 : Nat)) (g' := w.heap.size + 1 + 1) hA (by omega)).after hb5
            have hZ5 := (far4 (v0 := .int .u64 (wd Y 0 : Nat)) (v1 := .int .u64 (wd Y 1 : Nat)) (v2 := .int .u64 (wd Y 2 : Nat)) (v3 := .int .u64 (wd Y 3 : Nat)) (g' := w.heap.size + 1 + 1) hZ (by omega)).after hb5
            have hO5 := (stored4 (v0 := .int .u64 (wd Y 0 : Nat)) (v1 := .int .u64 (wd Y 1 : Nat)) (v2 := .int .u64 (wd Y 2 : Nat)) (v3 := .int .u64 (wd Y 3 : Nat)) hO).after hb5
            have hB5 := bel_on (bel4 (v0 := .int .u64 (wd Y 0 : Nat)) (v1 := .int .u64 (wd Y 1 : Nat)) (v2 := .int .u64 (wd Y 2 : Nat)) (v3 := .int .u64 (wd Y 3 : Nat)) (g' := w.heap.size + 1 + 1) hB (by omega)) hb5
            have HA5 := Lib.hid (hA5.alloc (.cells #[.int .u64 (wd (shiftN a ((k : Int) - 256)) 0 : Nat), .int .u64 (wd (shiftN a ((k : Int) - 256)) 1 : Nat), .int .u64 (wd (shiftN a ((k : Int) - 256)) 2 : Nat), .int .u64 (wd (shiftN a ((k : Int) - 256)) 3 : Nat)] 25))
            have HZ5 := Lib.hid (hZ5.alloc (.cells #[.int .u64 (wd (shiftN a ((k : Int) - 256)) 0 : Nat), .int .u64 (wd (shiftN a ((k : Int) - 256)) 1 : Nat), .int .u64 (wd (shiftN a ((k : Int) - 256)) 2 : Nat), .int .u64 (wd (shiftN a ((k : Int) - 256)) 3 : Nat)] 25))
            have HO5 := Lib.hid (hO5.alloc (.cells #[.int .u64 (wd (shiftN a ((k : Int) - 256)) 0 : Nat), .int .u64 (wd (shiftN a ((k : Int) - 256)) 1 : Nat), .int .u64 (wd (shiftN a ((k : Int) - 256)) 2 : Nat), .int .u64 (wd (shiftN a ((k : Int) - 256)) 3 : Nat)] 25))
            have HB5 := Lib.hid (hB5.alloc hB5.size (.cells #[.int .u64 (wd (shiftN a ((k : Int) - 256)) 0 : Nat), .int .u64 (wd (shiftN a ((k : Int) - 256)) 1 : Nat), .int .u64 (wd (shiftN a ((k : Int) - 256)) 2 : Nat), .int .u64 (wd (shiftN a ((k : Int) - 256)) 3 : Nat)] 25))
            clear z0 z1 z2 z3 frz lz x0 x1 x2 x3 frx lx y0 y1 y2 y3 fry ly hA5 hZ5 hO5 hB5 hb5 hzb hA hZ hO hB hn1 hn2
            have vsum : ((V : Int) + ((wd (shiftN a ((k : Int) - 256)) 0 : Nat) : Int)) = ((V + hi : Nat) : Int) := by rw [HHW.out.2.1]; omega
            have vmax : ((V + hi : Nat) : Int) ≤ 18446744073709551615 := by have := HST.out.2; have := HVL.out; split at * <;> omega
            have EY := Lib.hid HST.out.1
            cases mo
            · have vend : V + hi = V2 := by have := HST.out.2; simp at this; omega
              have VE := Lib.hid vend
              clear vend
              generalize V + hi = U at *
              go_wp2_with fail
              exact ⟨⟨k + 1, by omega, by go_num, by rw [VE.out, HV2.out], HA5.out, HZ5.out, by rw [← EY.out]; exact HO5.out, HB5.out⟩, by simp [intOf]; omega⟩
            · have vend : V + hi + 1 = V2 := by have := HST.out.2; simp at this; omega
              have vmax2 : ((V + hi : Nat) : Int) + 1 ≤ 18446744073709551615 := by have := HVL.out; omega
              have VE := Lib.hid vend
              clear vend
              generalize V + hi = U at *
              go_wp2_with fail
              exact ⟨⟨k + 1, by omega, by go_num, by rw [HV2.out, ← VE.out]; rfl, HA5.out, HZ5.out, by rw [← EY.out]; exact HO5.out, HB5.out⟩, by simp [intOf]; omega⟩
          · refine HeldOp.step (i := 8) rfl rfl ?_
            intro wc hSc
            have hgc : wr.heap.size ≤ wc.heap.size := hSc.size
            refine ⟨.pointer (some ⟨wc.heap.size, 0, none⟩), wc.alloc (.cells #[.int .u64 0, .int .u64 0, .int .u64 0, .int .u64 0] 25), .inl (by go_simp), SA wr wc.heap.size, ⟨hSc.alloc hSc.size _, _, _, _, _, IsBlk.new _ _ _⟩, fun w h => h.1, ?_⟩
            generalize wc.heap.size = g at *
            clear hSc
            (try simp only [Act.put, List.setIfInBounds_toArray, List.set_cons_zero, List.set_cons_succ])
            refine Held.one (i := 4) (by kernel_rfl) ?_
            refine HeldOp.call (i := 4) (f := ?_) (args := ?_) rfl rfl ?_ ?_
            rotate_left 2
            · (intro w hS; go_simp; (first | with_reducible rfl | (refine ⟨?_, ?_⟩ <;> with_reducible rfl)))
            intro wc hSc
            refine (KA.out _).mono ?_
            rintro e vc ⟨rfl, hb⟩
            refine ⟨_, rfl, (SA wr g), ⟨bel_on hSc.1 hb, hSc.2.on hb⟩, fun w h => h, ?_⟩
            clear hSc hb
            (try simp only [Act.put, List.setIfInBounds_toArray, List.set_cons_zero, List.set_cons_succ])
            (first | (refine Held.skip (i := 5) rfl (by kernel_rfl) (fun _ _ _ h => h) rfl ?_; (try simp only [Act.put, List.setIfInBounds_toArray, List.set_cons_zero, List.set_cons_succ])) | (refine Held.take (i := 5) (v := ?_) rfl (by kernel_rfl) (fun _ _ _ h => h) rfl ?_ ?_; rotate_left; (intro w hS; skip; go_simp; with_reducible rfl); (try simp only [Act.put, List.setIfInBounds_toArray, List.set_cons_zero, List.set_cons_succ])))
            (first | (refine Held.skip (i := 6) rfl (by kernel_rfl) (fun _ _ _ h => h) rfl ?_; (try simp only [Act.put, List.setIfInBounds_toArray, List.set_cons_zero, List.set_cons_succ])) | (refine Held.take (i := 6) (v := ?_) rfl (by kernel_rfl) (fun _ _ _ h => h) rfl ?_ ?_; rotate_left; (intro w hS; skip; go_simp; with_reducible rfl); (try simp only [Act.put, List.setIfInBounds_toArray, List.set_cons_zero, List.set_cons_succ])))
            (first | (refine Held.skip (i := 7) rfl (by kernel_rfl) (fun _ _ _ h => h) rfl ?_; (try simp only [Act.put, List.setIfInBounds_toArray, List.set_cons_zero, List.set_cons_succ])) | (refine Held.take (i := 7) (v := ?_) rfl (by kernel_rfl) (fun _ _ _ h => h) rfl ?_ ?_; rotate_left; (intro w hS; skip; go_simp; with_reducible rfl); (try simp only [Act.put, List.setIfInBounds_toArray, List.set_cons_zero, List.set_cons_succ])))
            refine Held.one (i := 9) (by kernel_rfl) ?_
            refine HeldOp.step (i := 9) rfl rfl ?_
            intro wc hSc
            obtain ⟨hx, c0, c1, c2, c3, hblk⟩ := hSc
            refine ⟨undef, (((wc.setCell ⟨g, 0, none⟩ (.int .u64 (wd Y 0 : Nat))).setCell ⟨g, 1, none⟩ (.int .u64 (wd Y 1 : Nat))).setCell ⟨g, 2, none⟩ (.int .u64 (wd Y 2 : Nat))).setCell ⟨g, 3, none⟩ (.int .u64 (wd Y 3 : Nat)), ?_, fun w' => Ext wr w' ∧ IsBlk w' g 25 #[.int .u64 (wd Y 0 : Nat), .int .u64 (wd Y 1 : Nat), .int .u64 (wd Y 2 : Nat), .int .u64 (wd Y 3 : Nat)], ⟨bel4 hx hgc, stored4 hblk⟩, fun w h => ⟨h.1, _, _, _, _, h.2⟩, ?_⟩
            · right
              have b0 := hblk.cell 0
              have b1 := hblk.cell 1
              have b2 := hblk.cell 2
              have b3 := hblk.cell 3
              simp at b0 b1 b2 b3
              have frb := hblk.free
              have ltb := hblk.lt
              go_simp
            (try simp only [Act.put, List.setIfInBounds_toArray, List.set_cons_zero, List.set_cons_succ])
            (first | (refine Held.skip (i := 10) rfl (by kernel_rfl) (fun _ _ _ h => h) rfl ?_; (try simp only [Act.put, List.setIfInBounds_toArray, List.set_cons_zero, List.set_cons_succ])) | (refine Held.take (i := 10) (v := ?_) rfl (by kernel_rfl) (fun _ _ _ h => h) rfl ?_ ?_; rotate_left; (intro w hS; skip; go_simp; with_reducible rfl); (try simp only [Act.put, List.setIfInBounds_toArray, List.set_cons_zero, List.set_cons_succ])))
            refine Held.done (by kernel_rfl) ?_
            intro wz hz
            obtain ⟨hzx, hzb⟩ := hz
            have hA := HA.out.after hzx
            have hZ := HZ.out.after hzx
            have hO := HO.out.after hzx
            have hB := bel_on HB.out hzx
            have hn1 : g ≠ w.heap.size := by omega
            have hn2 : g ≠ w.heap.size + 1 + 1 := by omega
            clear hx hblk hgc hcl hol hzx
            have z0 := hzb.cell 0
            have z1 := hzb.cell 1
            have z2 := hzb.cell 2
            have z3 := hzb.cell 3
            simp at z0 z1 z2 z3
            have frz := hzb.free
            have x0 := hA.cell 0
            have x1 := hA.cell 1
            have x2 := hA.cell 2
            have x3 := hA.cell 3
            simp at x0 x1 x2 x3
            have frx := hA.free
            have y0 := hO.cell 0
            have y1 := hO.cell 1
            have y2 := hO.cell 2
            have y3 := hO.cell 3
            simp at y0 y1 y2 y3
            have fry := hO.free
            have lz := hzb.lt
            have lx := hA.lt
            have ly := hO.lt
            go_wp2_with fail
            refine (KH.out _).mono ?_
            rintro e w5 ⟨rfl, hb5⟩
            have hA5 := (far4 (v0 := .int .u64 (wd Y 0 : Nat)) (v1 := .int .u64 (wd Y 1 : Nat)) (v2 := .int .u64 (wd Y 2 : Nat)) (v3 := .int .u64 (wd Y 3 : Nat)) (g' := w.heap.size + 1 + 1) hA (by omega)).after hb5
            have hZ5 := (far4 (v0 := .int .u64 (wd Y 0 : Nat)) (v1 := .int .u64 (wd Y 1 : Nat)) (v2 := .int .u64 (wd Y 2 : Nat)) (v3 := .int .u64 (wd Y 3 : Nat)) (g' := w.heap.size + 1 + 1) hZ (by omega)).after hb5
            have hO5 := (stored4 (v0 := .int .u64 (wd Y 0 : Nat)) (v1 := .int .u64 (wd Y 1 : Nat)) (v2 := .int .u64 (wd Y 2 : Nat)) (v3 := .int .u64 (wd Y 3 : Nat)) hO).after hb5
            have hB5 := bel_on (bel4 (v0 := .int .u64 (wd Y 0 : Nat)) (v1 := .int .u64 (wd Y 1 : Nat)) (v2 := .int .u64 (wd Y 2 : Nat)) (v3 := .int .u64 (wd Y 3 : Nat)) (g' := w.heap.size + 1 + 1) hB (by omega)) hb5
            have HA5 := Lib.hid (hA5.alloc (.cells #[.int .u64 (wd (shiftN a ((k : Int) - 256)) 0 : Nat), .int .u64 (wd (shiftN a ((k : Int) - 256)) 1 : Nat), .int .u64 (wd (shiftN a ((k : Int) - 256)) 2 : Nat), .int .u64 (wd (shiftN a ((k : Int) - 256)) 3 : Nat)] 25))
            have HZ5 := Lib.hid (hZ5.alloc (.cells #[.int .u64 (wd (shiftN a ((k : Int) - 256)) 0 : Nat), .int .u64 (wd (shiftN a ((k : Int) - 256)) 1 : Nat), .int .u64 (wd (shiftN a ((k : Int) - 256)) 2 : Nat), .int .u64 (wd (shiftN a ((k : Int) - 256)) 3 : Nat)] 25))
            have HO5 := Lib.hid (hO5.alloc (.cells #[.int .u64 (wd (shiftN a ((k : Int) - 256)) 0 : Nat), .int .u64 (wd (shiftN a ((k : Int) - 256)) 1 : Nat), .int .u64 (wd (shiftN a ((k : Int) - 256)) 2 : Nat), .int .u64 (wd (shiftN a ((k : Int) - 256)) 3 : Nat)] 25))
            have HB5 := Lib.hid (hB5.alloc hB5.size (.cells #[.int .u64 (wd (shiftN a ((k : Int) - 256)) 0 : Nat), .int .u64 (wd (shiftN a ((k : Int) - 256)) 1 : Nat), .int .u64 (wd (shiftN a ((k : Int) - 256)) 2 : Nat), .int .u64 (wd (shiftN a ((k : Int) - 256)) 3 : Nat)] 25))
            clear z0 z1 z2 z3 frz lz x0 x1 x2 x3 frx lx y0 y1 y2 y3 fry ly hA5 hZ5 hO5 hB5 hb5 hzb hA hZ hO hB hn1 hn2
            have vsum : ((V : Int) + ((wd (shiftN a ((k : Int) - 256)) 0 : Nat) : Int)) = ((V + hi : Nat) : Int) := by rw [HHW.out.2.1]; omega
            have vmax : ((V + hi : Nat) : Int) ≤ 18446744073709551615 := by have := HST.out.2; have := HVL.out; split at * <;> omega
            have EY := Lib.hid HST.out.1
            cases mo
            · have vend : V + hi = V2 := by have := HST.out.2; simp at this; omega
              have VE := Lib.hid vend
              clear vend
              generalize V + hi = U at *
              go_wp2_with fail
              exact ⟨⟨k + 1, by omega, by go_num, by rw [VE.out, HV2.out], HA5.out, HZ5.out, by rw [← EY.out]; exact HO5.out, HB5.out⟩, by simp [intOf]; omega⟩
            · have vend : V + hi + 1 = V2 := by have := HST.out.2; simp at this; omega
              have vmax2 : ((V + hi : Nat) : Int) + 1 ≤ 18446744073709551615 := by have := HVL.out; omega
              have VE := Lib.hid vend
              clear vend
              generalize V + hi = U at *
              go_wp2_with fail
              exact ⟨⟨k + 1, by omega, by go_num, by rw [HV2.out, ← VE.out]; rfl, HA5.out, HZ5.out, by rw [← EY.out]; exact HO5.out, HB5.out⟩, by simp [intOf]; omega⟩
        · refine HeldOp.step (i := 8) rfl rfl ?_
          intro wc hSc
          have hgc : wr.heap.size ≤ wc.heap.size := hSc.size
          refine ⟨.pointer (some ⟨wc.heap.size, 0, none⟩), wc.alloc (.cells #[.int .u64 0, .int .u64 0, .int .u64 0, .int .u64 0] 25), .inl (by go_simp), SA wr wc.heap.size, ⟨hSc.alloc hSc.size _, _, _, _, _, IsBlk.new _ _ _⟩, fun w h => h.1, ?_⟩
          generalize wc.heap.size = g at *
          clear hSc
          (try simp only [Act.put, List.setIfInBounds_toArray, List.set_cons_zero, List.set_cons_succ])
          refine Held.one (i := 3) (by kernel_rfl) ?_
          refine HeldOp.call (i := 3) (f := ?_) (args := ?_) rfl rfl ?_ ?_
          rotate_left 2
          · (intro w hS; go_simp; (first | with_reducible rfl | (refine ⟨?_, ?_⟩ <;> with_reducible rfl)))
          intro wc hSc
          refine (KS.out _).mono ?_
          rintro e vc ⟨rfl, hb⟩
          refine ⟨_, rfl, (SA wr g), ⟨bel_on hSc.1 hb, hSc.2.on hb⟩, fun w h => h, ?_⟩
          clear hSc hb
          (try simp only [Act.put, List.setIfInBounds_toArray, List.set_cons_zero, List.set_cons_succ])
          refine Held.one (i := 4) (by kernel_rfl) ?_
          refine HeldOp.call (i := 4) (f := ?_) (args := ?_) rfl rfl ?_ ?_
          rotate_left 2
          · (intro w hS; go_simp; (first | with_reducible rfl | (refine ⟨?_, ?_⟩ <;> with_reducible rfl)))
          intro wc hSc
          refine (KA.out _).mono ?_
          rintro e vc ⟨rfl, hb⟩
          refine ⟨_, rfl, (SA wr g), ⟨bel_on hSc.1 hb, hSc.2.on hb⟩, fun w h => h, ?_⟩
          clear hSc hb
          (try simp only [Act.put, List.setIfInBounds_toArray, List.set_cons_zero, List.set_cons_succ])
          (first | (refine Held.skip (i := 5) rfl (by kernel_rfl) (fun _ _ _ h => h) rfl ?_; (try simp only [Act.put, List.setIfInBounds_toArray, List.set_cons_zero, List.set_cons_succ])) | (refine Held.take (i := 5) (v := ?_) rfl (by kernel_rfl) (fun _ _ _ h => h) rfl ?_ ?_; rotate_left; (intro w hS; skip; go_simp; with_reducible rfl); (try simp only [Act.put, List.setIfInBounds_toArray, List.set_cons_zero, List.set_cons_succ])))
          (first | (refine Held.skip (i := 6) rfl (by kernel_rfl) (fun _ _ _ h => h) rfl ?_; (try simp only [Act.put, List.setIfInBounds_toArray, List.set_cons_zero, List.set_cons_succ])) | (refine Held.take (i := 6) (v := ?_) rfl (by kernel_rfl) (fun _ _ _ h => h) rfl ?_ ?_; rotate_left; (intro w hS; skip; go_simp; with_reducible rfl); (try simp only [Act.put, List.setIfInBounds_toArray, List.set_cons_zero, List.set_cons_succ])))
          (first | (refine Held.skip (i := 7) rfl (by kernel_rfl) (fun _ _ _ h => h) rfl ?_; (try simp only [Act.put, List.setIfInBounds_toArray, List.set_cons_zero, List.set_cons_succ])) | (refine Held.take (i := 7) (v := ?_) rfl (by kernel_rfl) (fun _ _ _ h => h) rfl ?_ ?_; rotate_left; (intro w hS; skip; go_simp; with_reducible rfl); (try simp only [Act.put, List.setIfInBounds_toArray, List.set_cons_zero, List.set_cons_succ])))
          refine Held.one (i := 9) (by kernel_rfl) ?_
          refine HeldOp.step (i := 9) rfl rfl ?_
          intro wc hSc
          obtain ⟨hx, c0, c1, c2, c3, hblk⟩ := hSc
          refine ⟨undef, (((wc.setCell ⟨g, 0, none⟩ (.int .u64 (wd Y 0 : Nat))).setCell ⟨g, 1, none⟩ (.int .u64 (wd Y 1 : Nat))).setCell ⟨g, 2, none⟩ (.int .u64 (wd Y 2 : Nat))).setCell ⟨g, 3, none⟩ (.int .u64 (wd Y 3 : Nat)), ?_, fun w' => Ext wr w' ∧ IsBlk w' g 25 #[.int .u64 (wd Y 0 : Nat), .int .u64 (wd Y 1 : Nat), .int .u64 (wd Y 2 : Nat), .int .u64 (wd Y 3 : Nat)], ⟨bel4 hx hgc, stored4 hblk⟩, fun w h => ⟨h.1, _, _, _, _, h.2⟩, ?_⟩
          · right
            have b0 := hblk.cell 0
            have b1 := hblk.cell 1
            have b2 := hblk.cell 2
            have b3 := hblk.cell 3
            simp at b0 b1 b2 b3
            have frb := hblk.free
            have ltb := hblk.lt
            go_simp
          (try simp only [Act.put, List.setIfInBounds_toArray, List.set_cons_zero, List.set_cons_succ])
          (first | (refine Held.skip (i := 10) rfl (by kernel_rfl) (fun _ _ _ h => h) rfl ?_; (try simp only [Act.put, List.setIfInBounds_toArray, List.set_cons_zero, List.set_cons_succ])) | (refine Held.take (i := 10) (v := ?_) rfl (by kernel_rfl) (fun _ _ _ h => h) rfl ?_ ?_; rotate_left; (intro w hS; skip; go_simp; with_reducible rfl); (try simp only [Act.put, List.setIfInBounds_toArray, List.set_cons_zero, List.set_cons_succ])))
          refine Held.done (by kernel_rfl) ?_
          intro wz hz
          obtain ⟨hzx, hzb⟩ := hz
          have hA := HA.out.after hzx
          have hZ := HZ.out.after hzx
          have hO := HO.out.after hzx
          have hB := bel_on HB.out hzx
          have hn1 : g ≠ w.heap.size := by omega
          have hn2 : g ≠ w.heap.size + 1 + 1 := by omega
          clear hx hblk hgc hcl hol hzx
          have z0 := hzb.cell 0
          have z1 := hzb.cell 1
          have z2 := hzb.cell 2
          have z3 := hzb.cell 3
          simp at z0 z1 z2 z3
          have frz := hzb.free
          have x0 := hA.cell 0
          have x1 := hA.cell 1
          have x2 := hA.cell 2
          have x3 := hA.cell 3
          simp at x0 x1 x2 x3
          have frx := hA.free
          have y0 := hO.cell 0
          have y1 := hO.cell 1
          have y2 := hO.cell 2
          have y3 := hO.cell 3
          simp at y0 y1 y2 y3
          have fry := hO.free
          have lz := hzb.lt
          have lx := hA.lt
          have ly := hO.lt
          go_wp2_with fail
          refine (KH.out _).mono ?_
          rintro e w5 ⟨rfl, hb5⟩
          have hA5 := (far4 (v0 := .int .u64 (wd Y 0 : Nat)) (v1 := .int .u64 (wd Y 1 : Nat)) (v2 := .int .u64 (wd Y 2 : Nat)) (v3 := .int .u64 (wd Y 3 : Nat)) (g' := w.heap.size + 1 + 1) hA (by omega)).after hb5
          have hZ5 := (far4 (v0 := .int .u64 (wd Y 0 : Nat)) (v1 := .int .u64 (wd Y 1 : Nat)) (v2 := .int .u64 (wd Y 2 : Nat)) (v3 := .int .u64 (wd Y 3 : Nat)) (g' := w.heap.size + 1 + 1) hZ (by omega)).after hb5
          have hO5 := (stored4 (v0 := .int .u64 (wd Y 0 : Nat)) (v1 := .int .u64 (wd Y 1 : Nat)) (v2 := .int .u64 (wd Y 2 : Nat)) (v3 := .int .u64 (wd Y 3 : Nat)) hO).after hb5
          have hB5 := bel_on (bel4 (v0 := .int .u64 (wd Y 0 : Nat)) (v1 := .int .u64 (wd Y 1 : Nat)) (v2 := .int .u64 (wd Y 2 : Nat)) (v3 := .int .u64 (wd Y 3 : Nat)) (g' := w.heap.size + 1 + 1) hB (by omega)) hb5
          have HA5 := Lib.hid (hA5.alloc (.cells #[.int .u64 (wd (shiftN a ((k : Int) - 256)) 0 : Nat), .int .u64 (wd (shiftN a ((k : Int) - 256)) 1 : Nat), .int .u64 (wd (shiftN a ((k : Int) - 256)) 2 : Nat), .int .u64 (wd (shiftN a ((k : Int) - 256)) 3 : Nat)] 25))
          have HZ5 := Lib.hid (hZ5.alloc (.cells #[.int .u64 (wd (shiftN a ((k : Int) - 256)) 0 : Nat), .int .u64 (wd (shiftN a ((k : Int) - 256)) 1 : Nat), .int .u64 (wd (shiftN a ((k : Int) - 256)) 2 : Nat), .int .u64 (wd (shiftN a ((k : Int) - 256)) 3 : Nat)] 25))
          have HO5 := Lib.hid (hO5.alloc (.cells #[.int .u64 (wd (shiftN a ((k : Int) - 256)) 0 : Nat), .int .u64 (wd (shiftN a ((k : Int) - 256)) 1 : Nat), .int .u64 (wd (shiftN a ((k : Int) - 256)) 2 : Nat), .int .u64 (wd (shiftN a ((k : Int) - 256)) 3 : Nat)] 25))
          have HB5 := Lib.hid (hB5.alloc hB5.size (.cells #[.int .u64 (wd (shiftN a ((k : Int) - 256)) 0 : Nat), .int .u64 (wd (shiftN a ((k : Int) - 256)) 1 : Nat), .int .u64 (wd (shiftN a ((k : Int) - 256)) 2 : Nat), .int .u64 (wd (shiftN a ((k : Int) - 256)) 3 : Nat)] 25))
          clear z0 z1 z2 z3 frz lz x0 x1 x2 x3 frx lx y0 y1 y2 y3 fry ly hA5 hZ5 hO5 hB5 hb5 hzb hA hZ hO hB hn1 hn2
          have vsum : ((V : Int) + ((wd (shiftN a ((k : Int) - 256)) 0 : Nat) : Int)) = ((V + hi : Nat) : Int) := by rw [HHW.out.2.1]; omega
          have vmax : ((V + hi : Nat) : Int) ≤ 18446744073709551615 := by have := HST.out.2; have := HVL.out; split at * <;> omega
          have EY := Lib.hid HST.out.1
          cases mo
          · have vend : V + hi = V2 := by have := HST.out.2; simp at this; omega
            have VE := Lib.hid vend
            clear vend
            generalize V + hi = U at *
            go_wp2_with fail
            exact ⟨⟨k + 1, by omega, by go_num, by rw [VE.out, HV2.out], HA5.out, HZ5.out, by rw [← EY.out]; exact HO5.out, HB5.out⟩, by simp [intOf]; omega⟩
          · have vend : V + hi + 1 = V2 := by have := HST.out.2; simp at this; omega
            have vmax2 : ((V + hi : Nat) : Int) + 1 ≤ 18446744073709551615 := by have := HVL.out; omega
            have VE := Lib.hid vend
            clear vend
            generalize V + hi = U at *
            go_wp2_with fail
            exact ⟨⟨k + 1, by omega, by go_num, by rw [HV2.out, ← VE.out]; rfl, HA5.out, HZ5.out, by rw [← EY.out]; exact HO5.out, HB5.out⟩, by simp [intOf]; omega⟩
    · obtain rfl : k = 64 := by omega
      rw [F0.out] at hO
      rw [F1.out]
      have y0 := hO.cell 0
      have y1 := hO.cell 1
      have y2 := hO.cell 2
      have y3 := hO.cell 3
      simp at y0 y1 y2 y3
      have fry := hO.free
      have z0 := hZ.cell 0
      have z1 := hZ.cell 1
      have z2 := hZ.cell 2
      have z3 := hZ.cell 3
      simp at z0 z1 z2 z3
      have frz := hZ.free
      have ly := hO.lt
      have HZ := Lib.hid hZ
      have HB := Lib.hid hB
      clear hA hZ hO hB hlt hk
      generalize mulN a n = M at *
      generalize mulOv a n = V at *
      go_wp2_with fail
      refine bodyPost_ret (v := .tuple #[.agg #[.int .u64 (wd M 0 : Nat), .int .u64 (wd M 1 : Nat), .int .u64 (wd M 2 : Nat), .int .u64 (wd M 3 : Nat)], .int .u64 (V : Nat)]) ?_ rfl ⟨rfl, ?_⟩
      · have b0 := ((((HZ.out.put 0 (.int .u64 (wd (M) 0 : Nat))).put 1 (.int .u64 (wd (M) 1 : Nat))).put 2 (.int .u64 (wd (M) 2 : Nat))).put 3 (.int .u64 (wd (M) 3 : Nat)))
        have z0 := b0.cell 0
        have z1 := b0.cell 1
        have z2 := b0.cell 2
        have z3 := b0.cell 3
        simp at z0 z1 z2 z3
        simp [results, Try.results32, go_sem, z0, z1, z2, z3]
      · exact (((HB.out.setCell (by first | (simp; done) | (simp; omega)) _).setCell (by first | (simp; done) | (simp; omega)) _).setCell (by first | (simp; done) | (simp; omega)) _).setCell (by first | (simp; done) | (simp; omega)) _
end Go.Proofs.Ythmaijmjhfngpaa
