/- Bits that are set anew: the program's walks. -/
import Derived.Test.YthmaijmjhfngpaaTgI
namespace Go.Proofs.Ythmaijmjhfngpaa
open Go.RowKit

/-! ### A product divided by a word -/
/-- What is left of the words from k on of a product of five words. -/
def restP (p v n k : Nat) : Nat := (v * 2 ^ 256 + p) / 2 ^ (64 * k) % n
theorem restP_lt {p v n : Nat} (hn : 0 < n) (k : Nat) : restP p v n k < n := Nat.mod_lt _ hn
theorem restP_four {p v n : Nat} (hp : p < w256) (hv : v < n) : restP p v n 4 = v := by
  unfold restP
  rw [show 64 * 4 = 256 from rfl, Nat.mul_comm, Nat.mul_add_div (Nat.two_pow_pos 256), Nat.div_eq_of_lt (show p < 2 ^ 256 from hp), Nat.add_zero, Nat.mod_eq_of_lt hv]
theorem restP_zero (p v n : Nat) : restP p v n 0 = (v * 2 ^ 256 + p) % n := by simp [restP]
theorem wd_high (p v k : Nat) (hk : k < 4) : wd (v * 2 ^ 256 + p) k = wd p k := by
  have h := wd_mod (n := v * 2 ^ 256 + p) hk
  rw [← h, show w256 = 2 ^ 256 from rfl, Nat.mul_comm, Nat.mul_add_mod, ← show w256 = 2 ^ 256 from rfl, wd_mod hk]
theorem divP_word {p v n : Nat} (hn : 0 < n) (k : Nat) (hk : k < 4) : (restP p v n (k + 1) * 18446744073709551616 + wd p k) / n = wd ((v * 2 ^ 256 + p) / n) k ∧ (restP p v n (k + 1) * 18446744073709551616 + wd p k) % n = restP p v n k := by
  have h := div_word (a := v * 2 ^ 256 + p) hn k
  rw [wd_high p v k hk] at h
  exact h

set_option maxRecDepth 100000 in
set_option maxHeartbeats 8000000 in
theorem scaled_no (a t n p v : Nat) (w : World) (hv : n ≤ v)
    (K1 : Hid (∀ w, Calls Try.prog 28 #[.agg #[.int .u64 (wd a 0 : Nat), .int .u64 (wd a 1 : Nat), .int .u64 (wd a 2 : Nat), .int .u64 (wd a 3 : Nat)], .int .u64 t] w (BRet (.tuple #[.agg #[.int .u64 (wd p 0 : Nat), .int .u64 (wd p 1 : Nat), .int .u64 (wd p 2 : Nat), .int .u64 (wd p 3 : Nat)], .int .u64 v]) w))) :
    Calls Try.prog 46 #[.agg #[.int .u64 (wd a 0 : Nat), .int .u64 (wd a 1 : Nat), .int .u64 (wd a 2 : Nat), .int .u64 (wd a 3 : Nat)], .int .u64 t, .int .u64 n] w (BRet (.tuple #[.agg #[.int .u64 0, .int .u64 0, .int .u64 0, .int .u64 0], .bool false]) w) := by
  go_enter Try.func46, Try.ntmps46
  go_wp2_with fail
  refine (K1.out _).mono ?_
  rintro e w1 ⟨rfl, hb1⟩
  have Ha1 := Lib.hid ((show IsBlk _ (w.heap.size) 25 #[.int .u64 (wd a 0 : Nat), .int .u64 (wd a 1 : Nat), .int .u64 (wd a 2 : Nat), .int .u64 (wd a 3 : Nat)] from ((IsBlk.newAt _ _ rfl).alloc _)).after hb1)
  have Ho1 := Lib.hid ((show IsBlk _ (w.heap.size + 1) 25 #[.int .u64 0, .int .u64 0, .int .u64 0, .int .u64 0] from (IsBlk.newAt _ _ (by simp))).after hb1)
  have HB1 := Lib.hid ((show Below w.heap.size w _ from by repeat' (first | exact Below.refl _ _ | refine bel_drewN ?_ _ | refine Below.drew ?_ | refine Below.alloc ?_ ?_ _ | refine Below.setCell ?_ ?_ _ | exact Nat.le_refl _ | (simp; done) | (simp; omega) | assumption)).trans (hb1.mono (by simp <;> omega)))
  clear hb1
  have ho := Ho1.out
  have vo0 := ho.cell 0
  have vo1 := ho.cell 1
  have vo2 := ho.cell 2
  have vo3 := ho.cell 3
  simp at vo0 vo1 vo2 vo3
  have frvo := ho.free
  have lvo := ho.lt
  have lvo' : w.heap.size < w1.heap.size := by have := ho.lt; omega
  clear ho
  go_wp2_with fail
  have z := (((((Ho1.out.put 0 (.int .u64 0)).put 1 (.int .u64 0)).put 2 (.int .u64 0)).put 3 (.int .u64 0)).alloc (.cells #[.int .u64 (wd p 0 : Nat), .int .u64 (wd p 1 : Nat), .int .u64 (wd p 2 : Nat), .int .u64 (wd p 3 : Nat)] 25))
  have z0 := z.cell 0
  have z1 := z.cell 1
  have z2 := z.cell 2
  have z3 := z.cell 3
  simp at z0 z1 z2 z3
  refine bodyPost_ret (v := .tuple #[.agg #[.int .u64 0, .int .u64 0, .int .u64 0, .int .u64 0], .bool false]) ?_ rfl ⟨rfl, ?_⟩
  · simp [results, Try.results46, go_sem, z0, z1, z2, z3]
  · exact (bel_al (bel4 HB1.out (by first | omega | (simp; done) | (simp; omega))) _)

set_option maxRecDepth 100000 in
set_option maxHeartbeats 16000000 in
theorem scaled_yes (a t n p v q r1 r2 r3 r0 : Nat) (w : World) (hv : v < n)
    (K1 : Hid (∀ w, Calls Try.prog 28 #[.agg #[.int .u64 (wd a 0 : Nat), .int .u64 (wd a 1 : Nat), .int .u64 (wd a 2 : Nat), .int .u64 (wd a 3 : Nat)], .int .u64 t] w (BRet (.tuple #[.agg #[.int .u64 (wd p 0 : Nat), .int .u64 (wd p 1 : Nat), .int .u64 (wd p 2 : Nat), .int .u64 (wd p 3 : Nat)], .int .u64 v]) w)))
    (H3 : Hid (∀ w, Calls Try.prog 49 #[.int .u64 v, .int .u64 (wd p 3 : Nat), .int .u64 n] w (BRet (.tuple #[.int .u64 (wd q 3 : Nat), .int .u64 r3]) w)))
    (H2 : Hid (∀ w, Calls Try.prog 49 #[.int .u64 r3, .int .u64 (wd p 2 : Nat), .int .u64 n] w (BRet (.tuple #[.int .u64 (wd q 2 : Nat), .int .u64 r2]) w)))
    (H1 : Hid (∀ w, Calls Try.prog 49 #[.int .u64 r2, .int .u64 (wd p 1 : Nat), .int .u64 n] w (BRet (.tuple #[.int .u64 (wd q 1 : Nat), .int .u64 r1]) w)))
    (H0 : Hid (∀ w, Calls Try.prog 49 #[.int .u64 r1, .int .u64 (wd p 0 : Nat), .int .u64 n] w (BRet (.tuple #[.int .u64 (wd q 0 : Nat), .int .u64 r0]) w))) :
    Calls Try.prog 46 #[.agg #[.int .u64 (wd a 0 : Nat), .int .u64 (wd a 1 : Nat), .int .u64 (wd a 2 : Nat), .int .u64 (wd a 3 : Nat)], .int .u64 t, .int .u64 n] w (BRet (.tuple #[.agg #[.int .u64 (wd q 0 : Nat), .int .u64 (wd q 1 : Nat), .int .u64 (wd q 2 : Nat), .int .u64 (wd q 3 : Nat)], .bool true]) w) := by
  go_enter Try.func46, Try.ntmps46
  go_wp2_with fail
  refine (K1.out _).mono ?_
  rintro e w9 ⟨rfl, hb9⟩
  have hO9 := (show IsBlk _ (w.heap.size + 1) 25 #[.int .u64 0, .int .u64 0, .int .u64 0, .int .u64 0] from IsBlk.newAt _ _ (by simp)).after hb9
  have hB9 := (show Below w.heap.size w _ from by repeat' (first | exact Below.refl _ _ | refine bel_drewN ?_ _ | refine Below.drew ?_ | refine Below.alloc ?_ ?_ _ | refine Below.setCell ?_ ?_ _ | exact Nat.le_refl _ | (simp; done) | (simp; omega) | assumption)).trans (hb9.mono (by simp <;> omega))
  clear hb9
  have ho9 := hO9.lt
  go_wp2_with fail
  refine wp_loop_rounds 5 ?_
  rw [rounds_succ]
  go_wp2_with fail
  refine (H3.out _).mono ?_
  rintro e w3 ⟨rfl, hb3⟩
  have hP3 := (show IsBlk _ w9.heap.size 25 #[.int .u64 (wd p 0 : Nat), .int .u64 (wd p 1 : Nat), .int .u64 (wd p 2 : Nat), .int .u64 (wd p 3 : Nat)] from IsBlk.newAt _ _ rfl).after hb3
  have hO3 := (hO9.alloc (.cells #[.int .u64 (wd p 0 : Nat), .int .u64 (wd p 1 : Nat), .int .u64 (wd p 2 : Nat), .int .u64 (wd p 3 : Nat)] 25)).after hb3
  have hB3 := bel_on (bel_al hB9 (.cells #[.int .u64 (wd p 0 : Nat), .int .u64 (wd p 1 : Nat), .int .u64 (wd p 2 : Nat), .int .u64 (wd p 3 : Nat)] 25)) hb3
  clear hO9 hB9
  clear hb3
  have x0 := hP3.cell 0
  have x1 := hP3.cell 1
  have x2 := hP3.cell 2
  have x3 := hP3.cell 3
  simp at x0 x1 x2 x3
  have frx := hP3.free
  have lx := hP3.lt
  go_wp2_with fail
  rw [rounds_succ]
  go_wp2_with fail
  refine (H2.out _).mono ?_
  rintro e w2 ⟨rfl, hb2⟩
  have hP2 := (hP3.put 3 (.int .u64 (wd q 3 : Nat))).after hb2
  have hO2 := (hO3.far (p := ⟨w9.heap.size, 3, none⟩) (by simp; omega) (.int .u64 (wd q 3 : Nat))).after hb2
  have hB2 := bel_on (hB3.setCell (p := ⟨w9.heap.size, 3, none⟩) (by simp; omega) (.int .u64 (wd q 3 : Nat))) hb2
  clear hP3 hO3 hB3 x0 x1 x2 x3 frx lx
  clear hb2
  have x0 := hP2.cell 0
  have x1 := hP2.cell 1
  have x2 := hP2.cell 2
  have x3 := hP2.cell 3
  simp at x0 x1 x2 x3
  have frx := hP2.free
  have lx := hP2.lt
  go_wp2_with fail
  rw [rounds_succ]
  go_wp2_with fail
  refine (H1.out _).mono ?_
  rintro e w1 ⟨rfl, hb1⟩
  have hP1 := (hP2.put 2 (.int .u64 (wd q 2 : Nat))).after hb1
  have hO1 := (hO2.far (p := ⟨w9.heap.size, 2, none⟩) (by simp; omega) (.int .u64 (wd q 2 : Nat))).after hb1
  have hB1 := bel_on (hB2.setCell (p := ⟨w9.heap.size, 2, none⟩) (by simp; omega) (.int .u64 (wd q 2 : Nat))) hb1
  clear hP2 hO2 hB2 x0 x1 x2 x3 frx lx
  clear hb1
  have x0 := hP1.cell 0
  have x1 := hP1.cell 1
  have x2 := hP1.cell 2
  have x3 := hP1.cell 3
  simp at x0 x1 x2 x3
  have frx := hP1.free
  have lx := hP1.lt
  go_wp2_with fail
  rw [rounds_succ]
  go_wp2_with fail
  refine (H0.out _).mono ?_
  rintro e w0 ⟨rfl, hb0⟩
  have hP0 := (hP1.put 1 (.int .u64 (wd q 1 : Nat))).after hb0
  have hO0 := (hO1.far (p := ⟨w9.heap.size, 1, none⟩) (by simp; omega) (.int .u64 (wd q 1 : Nat))).after hb0
  have hB0 := bel_on (hB1.setCell (p := ⟨w9.heap.size, 1, none⟩) (by simp; omega) (.int .u64 (wd q 1 : Nat))) hb0
  clear hP1 hO1 hB1 x0 x1 x2 x3 frx lx
  clear hb0
  have x0 := hP0.cell 0
  have x1 := hP0.cell 1
  have x2 := hP0.cell 2
  have x3 := hP0.cell 3
  simp at x0 x1 x2 x3
  have frx := hP0.free
  have lx := hP0.lt
  go_wp2_with fail
  rw [rounds_succ]
  have lo := hO0.lt
  have o0 := hO0.cell 0
  have o1 := hO0.cell 1
  have o2 := hO0.cell 2
  have o3 := hO0.cell 3
  simp at o0 o1 o2 o3
  have fro := hO0.free
  go_wp2_with fail
  have z := (((hO0.far (p := ⟨w9.heap.size, 0, none⟩) (by simp; omega) (.int .u64 (wd q 0 : Nat))).put 0 (.int .u64 (wd q 0 : Nat))).put 1 (.int .u64 (wd q 1 : Nat))).put 2 (.int .u64 (wd q 2 : Nat)) |>.put 3 (.int .u64 (wd q 3 : Nat))
  have z0 := z.cell 0
  have z1 := z.cell 1
  have z2 := z.cell 2
  have z3 := z.cell 3
  simp at z0 z1 z2 z3
  refine bodyPost_ret (v := .tuple #[.agg #[.int .u64 (wd q 0 : Nat), .int .u64 (wd q 1 : Nat), .int .u64 (wd q 2 : Nat), .int .u64 (wd q 3 : Nat)], .bool true]) ?_ rfl ⟨rfl, ?_⟩
  · simp [results, Try.results46, go_sem, z0, z1, z2, z3]
  · exact bel4 (hB0.setCell (by simp; omega) _) (by omega)

theorem scaled_any (a t n : Nat) (w : World) (ha : a < w256) (ht : t < 18446744073709551616) (hn : n < 18446744073709551616) (hn0 : 0 < n) :
    Calls Try.prog 46 #[.agg #[.int .u64 (wd a 0 : Nat), .int .u64 (wd a 1 : Nat), .int .u64 (wd a 2 : Nat), .int .u64 (wd a 3 : Nat)], .int .u64 t, .int .u64 n] w (BRet (if a * t / n < w256 then .tuple #[.agg #[.int .u64 (wd (a * t / n) 0 : Nat), .int .u64 (wd (a * t / n) 1 : Nat), .int .u64 (wd (a * t / n) 2 : Nat), .int .u64 (wd (a * t / n) 3 : Nat)], .bool true] else .tuple #[.agg #[.int .u64 0, .int .u64 0, .int .u64 0, .int .u64 0], .bool false]) w) := by
  have hd := Nat.div_add_mod (a * t) w256
  have hml : a * t % w256 < w256 := Nat.mod_lt _ (by rw [w256_eq]; decide)
  have hsum : mulOv a t * 2 ^ 256 + mulN a t = a * t := by
    show a * t / w256 * w256 + a * t % w256 = a * t
    rw [Nat.mul_comm]; exact hd
  have hiff : a * t / n < w256 ↔ mulOv a t < n := by
    rw [Nat.div_lt_iff_lt_mul hn0]
    show a * t < w256 * n ↔ a * t / w256 < n
    rw [Nat.div_lt_iff_lt_mul (by rw [w256_eq]; decide), Nat.mul_comm w256 n]
  by_cases h : a * t / n < w256
  · rw [if_pos h]
    have hv := hiff.1 h
    have D : ∀ k, k < 4 → ∀ w, Calls Try.prog 49 #[.int .u64 (restP (mulN a t) (mulOv a t) n (k + 1) : Nat), .int .u64 (wd (mulN a t) k : Nat), .int .u64 n] w (BRet (.tuple #[.int .u64 (wd (a * t / n) k : Nat), .int .u64 (restP (mulN a t) (mulOv a t) n k : Nat)]) w) := fun k hk w => by
      have := div64_any (restP (mulN a t) (mulOv a t) n (k + 1)) (wd (mulN a t) k) n w (restP_lt hn0 _) hn (wd_lt _ k)
      rw [(divP_word hn0 k hk).1, (divP_word hn0 k hk).2, hsum] at this
      exact this.mono fun _ _ ⟨h1, m, h2⟩ => ⟨h1, by subst h2; exact below_drewN m⟩
    have D3 := D 3 (by omega)
    rw [restP_four (mulN_lt a t) hv] at D3
    exact scaled_yes a t n (mulN a t) (mulOv a t) (a * t / n) _ _ _ _ w hv (Lib.hid fun w => mul_any a t w ha ht) (Lib.hid D3) (Lib.hid (D 2 (by omega))) (Lib.hid (D 1 (by omega))) (Lib.hid (D 0 (by omega)))
  · rw [if_neg h]
    exact scaled_no a t n (mulN a t) (mulOv a t) w (Nat.le_of_not_lt (mt hiff.2 h)) (Lib.hid fun w => mul_any a t w ha ht)
end Go.Proofs.Ythmaijmjhfngpaa
