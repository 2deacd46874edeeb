/- Numbers of four words: the laws of quotients and products, beside the reference. -/
import Derived.Test.YtncfgllcleidnaaWideBa
namespace Go.Proofs.Ytncfgllcleidnaa
open Go.RowKit

theorem in_wide {H : Type} {enc : TypeId × Value → H} {W : World} {v : Value} {d : DataW H} {p : List MemPlace} {base : Nat} (h : DataW.Trod enc Try.prog W 0 (fun _ => true) true 24 v d p) (o : Value.okWide Try.prog W .any base 24 v) :
    ∃ a, a < w256 ∧ v = .agg #[.int .u64 (wd a 0 : Nat), .int .u64 (wd a 1 : Nat), .int .u64 (wd a 2 : Nat), .int .u64 (wd a 3 : Nat)] := by
  obtain ⟨zs, hl, rfl, hz⟩ := in_array Try.underlying24 Try.underlying22 (by kernel_rfl) (by kernel_rfl) h o
  exact wide_of hl hz

set_option maxRecDepth 100000 in
set_option maxHeartbeats 4000000 in
theorem quots_case (a b q r : Nat) (x : Int) (w : World)
    (K1 : Hid (∀ w, Calls Try.prog 32 #[.agg #[.int .u64 (wd a 0 : Nat), .int .u64 (wd a 1 : Nat), .int .u64 (wd a 2 : Nat), .int .u64 (wd a 3 : Nat)], .agg #[.int .u64 (wd b 0 : Nat), .int .u64 (wd b 1 : Nat), .int .u64 (wd b 2 : Nat), .int .u64 (wd b 3 : Nat)]] w (BRet (.tuple #[.agg #[.int .u64 (wd q 0 : Nat), .int .u64 (wd q 1 : Nat), .int .u64 (wd q 2 : Nat), .int .u64 (wd q 3 : Nat)], .agg #[.int .u64 (wd r 0 : Nat), .int .u64 (wd r 1 : Nat), .int .u64 (wd r 2 : Nat), .int .u64 (wd r 3 : Nat)], .int .i64 x]) w)))
    (K2 : Hid (∀ w, Calls Try.prog 33 #[.agg #[.int .u64 (wd a 0 : Nat), .int .u64 (wd a 1 : Nat), .int .u64 (wd a 2 : Nat), .int .u64 (wd a 3 : Nat)], .agg #[.int .u64 (wd b 0 : Nat), .int .u64 (wd b 1 : Nat), .int .u64 (wd b 2 : Nat), .int .u64 (wd b 3 : Nat)]] w (BRet (.tuple #[.agg #[.int .u64 (wd q 0 : Nat), .int .u64 (wd q 1 : Nat), .int .u64 (wd q 2 : Nat), .int .u64 (wd q 3 : Nat)], .agg #[.int .u64 (wd r 0 : Nat), .int .u64 (wd r 1 : Nat), .int .u64 (wd r 2 : Nat), .int .u64 (wd r 3 : Nat)], .int .i64 x]) w)))
    (E1 : ∀ w, (binOp .eql 24 (.agg #[.int .u64 (wd q 0 : Nat), .int .u64 (wd q 1 : Nat), .int .u64 (wd q 2 : Nat), .int .u64 (wd q 3 : Nat)]) (.agg #[.int .u64 (wd q 0 : Nat), .int .u64 (wd q 1 : Nat), .int .u64 (wd q 2 : Nat), .int .u64 (wd q 3 : Nat)])).run Try.prog w = .ok (.bool true) w)
    (E2 : ∀ w, (binOp .eql 24 (.agg #[.int .u64 (wd r 0 : Nat), .int .u64 (wd r 1 : Nat), .int .u64 (wd r 2 : Nat), .int .u64 (wd r 3 : Nat)]) (.agg #[.int .u64 (wd r 0 : Nat), .int .u64 (wd r 1 : Nat), .int .u64 (wd r 2 : Nat), .int .u64 (wd r 3 : Nat)])).run Try.prog w = .ok (.bool true) w) :
    Calls Try.prog 7 #[.agg #[.int .u64 (wd a 0 : Nat), .int .u64 (wd a 1 : Nat), .int .u64 (wd a 2 : Nat), .int .u64 (wd a 3 : Nat)], .agg #[.int .u64 (wd b 0 : Nat), .int .u64 (wd b 1 : Nat), .int .u64 (wd b 2 : Nat), .int .u64 (wd b 3 : Nat)]] w (BRet (.bool true) w) := by
  have AW := Lib.hid awake_any
  go_enter Try.func7, Try.ntmps7
  go_wp2_with fail
  refine (K1.out _).mono ?_
  rintro e w1 ⟨rfl, hb1⟩
  have hA1 := (show IsBlk _ w.heap.size 24 #[.int .u64 (wd a 0 : Nat), .int .u64 (wd a 1 : Nat), .int .u64 (wd a 2 : Nat), .int .u64 (wd a 3 : Nat)] from (IsBlk.newAt _ _ rfl).alloc _).after hb1
  have hBB1 := (show IsBlk _ (w.heap.size + 1) 24 #[.int .u64 (wd b 0 : Nat), .int .u64 (wd b 1 : Nat), .int .u64 (wd b 2 : Nat), .int .u64 (wd b 3 : Nat)] from IsBlk.newAt _ _ (by simp)).after hb1
  have B1 := (show Below w.heap.size w _ from by repeat' (first | exact Below.refl _ _ | refine bel_drewN ?_ _ | refine Below.drew ?_ | refine Below.alloc ?_ ?_ _ | refine Below.setCell ?_ ?_ _ | exact Nat.le_refl _ | (simp; done) | (simp; omega) | assumption)).trans (hb1.mono (by simp <;> omega))
  clear hb1
  have y0 := hA1.cell 0
  have y1 := hA1.cell 1
  have y2 := hA1.cell 2
  have y3 := hA1.cell 3
  simp at y0 y1 y2 y3
  have fry := hA1.free
  have s0 := hBB1.cell 0
  have s1 := hBB1.cell 1
  have s2 := hBB1.cell 2
  have s3 := hBB1.cell 3
  simp at s0 s1 s2 s3
  have frs := hBB1.free
  have la := hA1.lt
  have lb := hBB1.lt
  go_wp2_with fail
  refine (K2.out _).mono ?_
  rintro e w2 ⟨rfl, hb2⟩
  have hQ2 := (laid_old (laid_new w1 q) r).after hb2
  have hR2 := (show IsBlk _ (w1.heap.size + 1) 24 #[.int .u64 (wd r 0 : Nat), .int .u64 (wd r 1 : Nat), .int .u64 (wd r 2 : Nat), .int .u64 (wd r 3 : Nat)] from IsBlk.newAt _ _ (by simp)).after hb2
  have B2 := (bel_laid B1 q).trans (((Below.refl _ _).alloc (Nat.le_refl _) _).mono (bel_laid B1 q).size) |>.trans (hb2.mono (by have := B1.size; simp; omega))
  clear hb2 y0 y1 y2 y3 fry s0 s1 s2 s3 frs la lb hA1 hBB1 B1
  have y0 := hQ2.cell 0
  have y1 := hQ2.cell 1
  have y2 := hQ2.cell 2
  have y3 := hQ2.cell 3
  simp at y0 y1 y2 y3
  have fry := hQ2.free
  have s0 := hR2.cell 0
  have s1 := hR2.cell 1
  have s2 := hR2.cell 2
  have s3 := hR2.cell 3
  simp at s0 s1 s2 s3
  have frs := hR2.free
  have la := hQ2.lt
  have lb := hR2.lt
  have HB2 := Lib.hid B2
  clear hQ2 hR2 B2
  go_wp2_with fail
  refine (AW.out _).mono ?_
  rintro e w3 ⟨rfl, hb3⟩
  have HB3 := Lib.hid ((((HB2.out.alloc HB2.out.size _).alloc (Nat.le_trans HB2.out.size (by simp)) _)).trans (hb3.mono (by have := HB2.out.size; simp; omega)))
  clear hb3
  go_wp2_with fail
  go_ret
  exact ⟨rfl, HB3.out⟩
theorem quots_walk (a b : Nat) (w : World) (ha : a < w256) (hb : b < w256) : Calls Try.prog 7 #[.agg #[.int .u64 (wd a 0 : Nat), .int .u64 (wd a 1 : Nat), .int .u64 (wd a 2 : Nat), .int .u64 (wd a 3 : Nat)], .agg #[.int .u64 (wd b 0 : Nat), .int .u64 (wd b 1 : Nat), .int .u64 (wd b 2 : Nat), .int .u64 (wd b 3 : Nat)]] w (BRet (.bool true) w) := by
  by_cases h : b = 0
  · subst h
    exact quots_case a 0 0 0 2 w (Lib.hid fun w => by rw [lit_zero]; exact quot_zero a w) (Lib.hid fun w => by rw [lit_zero]; exact refQuot_zero a w) (eqW_same _ _ _ _) (eqW_same _ _ _ _)
  · exact quots_case a b (a / b) (a % b) 0 w (Lib.hid fun w => quot_any a b w ha hb h) (Lib.hid fun w => refQuot_any a b w ha hb h) (eqW_same _ _ _ _) (eqW_same _ _ _ _)
theorem law_WideQuots {H : Type} {enc : TypeId × Value → H} (W : World) (base : Nat) (v0 v1 : Value) (d0 d1 : DataW H) (p0 p1 : List MemPlace)
    (h0 : DataW.Trod enc Try.prog W 0 (fun _ => true) true 24 v0 d0 p0) (h1 : DataW.Trod enc Try.prog W 0 (fun _ => true) true 24 v1 d1 p1)
    (o0 : Value.okWide Try.prog W .any base 24 v0) (o1 : Value.okWide Try.prog W .any base 24 v1) :
    Calls Try.prog 7 #[v0, v1] W fun e w' => e = .returned (.bool true) ∧ Below W.heap.size W w' := by
  obtain ⟨a, ha, rfl⟩ := in_wide h0 o0
  obtain ⟨b, hb, rfl⟩ := in_wide h1 o1
  exact quots_walk a b W ha hb

set_option maxRecDepth 100000 in
set_option maxHeartbeats 8000000 in
theorem products_case (a n q : Nat) (r x : Int) (w : World) (ha : a < w256) (hn : n < 18446744073709551616)
    (K3 : Hid (∀ w, Calls Try.prog 35 #[.agg #[.int .u64 (wd a 0 : Nat), .int .u64 (wd a 1 : Nat), .int .u64 (wd a 2 : Nat), .int .u64 (wd a 3 : Nat)], .int .u64 n] w (BRet (.tuple #[.agg #[.int .u64 (wd q 0 : Nat), .int .u64 (wd q 1 : Nat), .int .u64 (wd q 2 : Nat), .int .u64 (wd q 3 : Nat)], .int .u64 r, .int .i64 x]) w)))
    (K4 : Hid (∀ w, Calls Try.prog 36 #[.agg #[.int .u64 (wd a 0 : Nat), .int .u64 (wd a 1 : Nat), .int .u64 (wd a 2 : Nat), .int .u64 (wd a 3 : Nat)], .int .u64 n] w (BRet (.tuple #[.agg #[.int .u64 (wd q 0 : Nat), .int .u64 (wd q 1 : Nat), .int .u64 (wd q 2 : Nat), .int .u64 (wd q 3 : Nat)], .int .u64 r, .int .i64 x]) w))) :
    Calls Try.prog 8 #[.agg #[.int .u64 (wd a 0 : Nat), .int .u64 (wd a 1 : Nat), .int .u64 (wd a 2 : Nat), .int .u64 (wd a 3 : Nat)], .int .u64 n] w (BRet (.bool true) w) := by
  have AW := Lib.hid awake_any
  have K1 := Lib.hid (fun w => mul_any a n w ha hn)
  have K2 := Lib.hid (fun w => refMul_any a n w ha hn)
  have K5 := Lib.hid (fun w => of_any (n : Int) w)
  generalize mulN a n = M at *
  generalize mulOv a n = V at *
  have E1 := eqW_same (wd M 0 : Nat) (wd M 1 : Nat) (wd M 2 : Nat) (wd M 3 : Nat)
  have E2 := eqW_same (wd q 0 : Nat) (wd q 1 : Nat) (wd q 2 : Nat) (wd q 3 : Nat)
  have E3 := eqW_same (n : Int) 0 0 0
  go_enter Try.func8, Try.ntmps8
  go_wp2_with fail
  refine (K1.out _).mono ?_
  rintro e w1 ⟨rfl, hb1⟩
  have hA1 := (show IsBlk _ w.heap.size 24 #[.int .u64 (wd a 0 : Nat), .int .u64 (wd a 1 : Nat), .int .u64 (wd a 2 : Nat), .int .u64 (wd a 3 : Nat)] from IsBlk.newAt _ _ rfl).after hb1
  have B1 := (show Below w.heap.size w _ from by repeat' (first | exact Below.refl _ _ | refine bel_drewN ?_ _ | refine Below.drew ?_ | refine Below.alloc ?_ ?_ _ | refine Below.setCell ?_ ?_ _ | exact Nat.le_refl _ | (simp; done) | (simp; omega) | assumption)).trans (hb1.mono (by simp))
  clear hb1
  have y0 := hA1.cell 0
  have y1 := hA1.cell 1
  have y2 := hA1.cell 2
  have y3 := hA1.cell 3
  simp at y0 y1 y2 y3
  have fry := hA1.free
  have la := hA1.lt
  go_wp2_with fail
  refine (K2.out _).mono ?_
  rintro e w2 ⟨rfl, hb2⟩
  have hA2 := (laid_old hA1 M).after hb2
  have hM2 := (laid_new w1 M).after hb2
  have B2 := bel_on (bel_laid B1 M) hb2
  clear hb2 y0 y1 y2 y3 fry la hA1 B1
  have y0 := hA2.cell 0
  have y1 := hA2.cell 1
  have y2 := hA2.cell 2
  have y3 := hA2.cell 3
  simp at y0 y1 y2 y3
  have fry := hA2.free
  have la := hA2.lt
  go_wp2_with fail
  refine (K3.out _).mono ?_
  rintro e w3 ⟨rfl, hb3⟩
  have hA3 := (laid_old hA2 M).after hb3
  have hM3 := (laid_old hM2 M).after hb3
  have hN3 := (laid_new w2 M).after hb3
  have B3 := bel_on (bel_laid B2 M) hb3
  clear hb3 y0 y1 y2 y3 fry la hA2 hM2 B2
  have y0 := hA3.cell 0
  have y1 := hA3.cell 1
  have y2 := hA3.cell 2
  have y3 := hA3.cell 3
  simp at y0 y1 y2 y3
  have fry := hA3.free
  have la := hA3.lt
  go_wp2_with fail
  refine (K4.out _).mono ?_
  rintro e w4 ⟨rfl, hb4⟩
  have hM4 := (laid_old hM3 q).after hb4
  have hN4 := (laid_old hN3 q).after hb4
  have hQ4 := (laid_new w3 q).after hb4
  have B4 := bel_on (bel_laid B3 q) hb4
  clear hb4 y0 y1 y2 y3 fry la hA3 hM3 hN3 B3
  have y0 := hM4.cell 0
  have y1 := hM4.cell 1
  have y2 := hM4.cell 2
  have y3 := hM4.cell 3
  simp at y0 y1 y2 y3
  have fry := hM4.free
  have z0 := hN4.cell 0
  have z1 := hN4.cell 1
  have z2 := hN4.cell 2
  have z3 := hN4.cell 3
  simp at z0 z1 z2 z3
  have frz := hN4.free
  have s0 := hQ4.cell 0
  have s1 := hQ4.cell 1
  have s2 := hQ4.cell 2
  have s3 := hQ4.cell 3
  simp at s0 s1 s2 s3
  have frs := hQ4.free
  have ly := hM4.lt
  have lz := hN4.lt
  have ls := hQ4.lt
  have HB4 := Lib.hid (bel_laid B4 q)
  clear hM4 hN4 hQ4 B4
  go_wp2_with fail
  refine (K5.out _).mono ?_
  rintro e w5 ⟨rfl, hb5⟩
  have HB5 := Lib.hid (bel_on HB4.out hb5)
  clear hb5
  go_wp2_with fail
  refine (AW.out _).mono ?_
  rintro e w6 ⟨rfl, hb6⟩
  have HB6 := Lib.hid (bel_on HB5.out hb6)
  clear hb6
  go_wp2_with fail
  go_ret
  exact ⟨rfl, HB6.out⟩
theorem law_WideProducts {H : Type} {enc : TypeId × Value → H} (W : World) (base : Nat) (v0 v1 : Value) (d0 d1 : DataW H) (p0 p1 : List MemPlace)
    (h0 : DataW.Trod enc Try.prog W 0 (fun _ => true) true 24 v0 d0 p0) (h1 : DataW.Trod enc Try.prog W 0 (fun _ => true) true 22 v1 d1 p1)
    (o0 : Value.okWide Try.prog W .any base 24 v0) (o1 : Value.okWide Try.prog W .any base 22 v1) :
    Calls Try.prog 8 #[v0, v1] W fun e w' => e = .returned (.bool true) ∧ Below W.heap.size W w' := by
  obtain ⟨a, ha, rfl⟩ := in_wide h0 o0
  obtain ⟨z, rfl, hz⟩ := in_int Try.underlying22 h1 o1
  obtain ⟨n, rfl, hn⟩ := u64_nat hz
  rw [two64] at hn
  by_cases h : n = 0
  · subst h
    exact products_case a 0 0 0 2 W ha hn (Lib.hid fun w => by rw [lit_zero]; exact div_zero a w) (Lib.hid fun w => by rw [lit_zero]; exact refDiv_zero a w)
  · exact products_case a n (a / n) (a % n : Nat) 0 W ha hn (Lib.hid fun w => div_any a n w ha hn (by omega)) (Lib.hid fun w => refDiv_any a n w ha hn (by omega))
end Go.Proofs.Ytncfgllcleidnaa
