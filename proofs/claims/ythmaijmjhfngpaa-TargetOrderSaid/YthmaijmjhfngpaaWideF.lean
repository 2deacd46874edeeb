/- Numbers of four words: the law of moves. -/
import Derived.Test.YthmaijmjhfngpaaWideE
namespace Go.Proofs.Ythmaijmjhfngpaa
open Go.RowKit

theorem shiftN_out {a : Nat} (ha : a < w256) {c : Int} (h : c < -256 ∨ 256 < c) : shiftN a c = 0 := by
  apply Nat.eq_of_testBit_eq
  intro p
  rw [shiftN_bit ha, Nat.zero_testBit]
  by_cases hp : p < 256
  · simp only [hp, decide_true, Bool.true_and]
    rcases h with h | h
    · obtain ⟨k, hk⟩ := Int.eq_ofNat_of_zero_le (show 0 ≤ (p : Int) - c by omega)
      rw [hk, bitI_nat, bit_beyond ha (by omega)]
    · rw [bitI_neg a (by omega)]
  · simp [hp]
theorem ofBits_none : ofBits (fun _ => false) 256 = 0 := by
  apply Nat.eq_of_testBit_eq
  intro p
  rw [ofBits_bit]; simp

theorem u64_nat {x : Int} (h : (Lit.int .u64 x).wf = true) : ∃ n : Nat, x = (n : Int) ∧ n < 2 ^ 64 := by
  have h2 := wf_u64 h
  exact ⟨x.toNat, by omega, by rw [two64]; omega⟩
set_option maxRecDepth 100000 in
set_option maxHeartbeats 2000000 in
theorem refShift_out (a : Nat) (c : Int) (w : World) (ha : a < w256) (h : c < -256 ∨ 256 < c) :
    Calls Try.prog 51 #[.agg #[.int .u64 (wd a 0 : Nat), .int .u64 (wd a 1 : Nat), .int .u64 (wd a 2 : Nat), .int .u64 (wd a 3 : Nat)], .int .i64 c] w (BRet (.agg #[.int .u64 (wd (shiftN a c) 0 : Nat), .int .u64 (wd (shiftN a c) 1 : Nat), .int .u64 (wd (shiftN a c) 2 : Nat), .int .u64 (wd (shiftN a c) 3 : Nat)]) w) := by
  rw [shiftN_out ha h]
  have hmk : ∀ w : World, (Instr.makeSlice 77 (.int .i64 256) (.int .i64 256)).run Try.prog w = .ok (.slice (some ⟨w.heap.size, 0, none⟩) 256 256) (w.alloc (.cells (falses 256) 4)) := make_bools 256 (.inl rfl)
  clear ha
  rcases h with h | h
  all_goals
    go_enter Try.func51, Try.ntmps51
    go_wp2_with fail
    refine wp_loop_rounds 1 ?_
    rw [rounds_succ]
    go_wp2_with fail
    refine (of_bits _ 256 256 (fun _ => false) _ (by omega) (by omega) (by simp) (fun i hi => ?_)).mono ?_
    · exact ((show IsBlk _ (w.heap.size + 1 + 1) 4 (falses 256) from by repeat' (first | with_reducible assumption | with_reducible refine IsBlk.drewN ?_ _ | with_reducible refine IsBlk.drew ?_ | with_reducible refine IsBlk.newAt _ _ ?_ | with_reducible refine IsBlk.alloc ?_ _ | with_reducible refine IsBlk.far ?_ ?_ _ | (simp; done) | (simp; omega))).cell i).trans (by rw [falses_fill 256 i hi])
    rintro e w2 ⟨rfl, hb2⟩
    rw [ofBits_none]
    have hR2 := (show IsBlk _ (w.heap.size + 1) 25 #[.int .u64 0, .int .u64 0, .int .u64 0, .int .u64 0] from by repeat' (first | with_reducible assumption | with_reducible refine IsBlk.drewN ?_ _ | with_reducible refine IsBlk.drew ?_ | with_reducible refine IsBlk.newAt _ _ ?_ | with_reducible refine IsBlk.alloc ?_ _ | with_reducible refine IsBlk.far ?_ ?_ _ | (simp; done) | (simp; omega))).after hb2
    have hB2 := (show Below w.heap.size w _ from by repeat' (first | exact Below.refl _ _ | refine bel_drewN ?_ _ | refine Below.drew ?_ | refine Below.alloc ?_ ?_ _ | refine Below.setCell ?_ ?_ _ | exact Nat.le_refl _ | (simp; done) | (simp; omega) | assumption)).trans (hb2.mono (by simp <;> omega))
    have r0 := hR2.cell 0
    have r1 := hR2.cell 1
    have r2 := hR2.cell 2
    have r3 := hR2.cell 3
    simp at r0 r1 r2 r3
    have frr := hR2.free
    have HR2 := Lib.hid hR2
    have HB2 := Lib.hid hB2
    clear hR2 hb2 hB2
    go_wp2_with fail
    refine bodyPost_ret (v := (.agg #[.int .u64 (wd (0) 0 : Nat), .int .u64 (wd (0) 1 : Nat), .int .u64 (wd (0) 2 : Nat), .int .u64 (wd (0) 3 : Nat)])) ?_ rfl ⟨rfl, ?_⟩
    · have b0 := ((((HR2.out.put 0 (.int .u64 (wd (0) 0 : Nat))).put 1 (.int .u64 (wd (0) 1 : Nat))).put 2 (.int .u64 (wd (0) 2 : Nat))).put 3 (.int .u64 (wd (0) 3 : Nat)))
      have z0 := b0.cell 0
      have z1 := b0.cell 1
      have z2 := b0.cell 2
      have z3 := b0.cell 3
      simp at z0 z1 z2 z3
      simp [results, Try.results51, go_sem, z0, z1, z2, z3]
    · exact (((HB2.out.setCell (by first | (simp; done) | (simp; omega)) _).setCell (by first | (simp; done) | (simp; omega)) _).setCell (by first | (simp; done) | (simp; omega)) _).setCell (by first | (simp; done) | (simp; omega)) _
theorem refShift_any (a : Nat) (c : Int) (w : World) (ha : a < w256) : Calls Try.prog 51 #[.agg #[.int .u64 (wd a 0 : Nat), .int .u64 (wd a 1 : Nat), .int .u64 (wd a 2 : Nat), .int .u64 (wd a 3 : Nat)], .int .i64 c] w (BRet (.agg #[.int .u64 (wd (shiftN a c) 0 : Nat), .int .u64 (wd (shiftN a c) 1 : Nat), .int .u64 (wd (shiftN a c) 2 : Nat), .int .u64 (wd (shiftN a c) 3 : Nat)]) w) := by
  by_cases h : c < -256 ∨ 256 < c
  · exact refShift_out a c w ha h
  · exact refShift_in a c w ha (by omega) (by omega)
theorem wide_of {zs : List Int} (hl : zs.length = 4) (hz : ∀ z ∈ zs, (Lit.int .u64 z).wf = true) : ∃ a, a < w256 ∧ Value.agg (zs.map (Value.int .u64)).toArray = .agg #[.int .u64 (wd a 0 : Nat), .int .u64 (wd a 1 : Nat), .int .u64 (wd a 2 : Nat), .int .u64 (wd a 3 : Nat)] := by
  match zs, hl with
  | [z0, z1, z2, z3], _ =>
    obtain ⟨x0, rfl, h0⟩ := u64_nat (hz z0 (by simp))
    obtain ⟨x1, rfl, h1⟩ := u64_nat (hz z1 (by simp))
    obtain ⟨x2, rfl, h2⟩ := u64_nat (hz z2 (by simp))
    obtain ⟨x3, rfl, h3⟩ := u64_nat (hz z3 (by simp))
    refine ⟨ofWds x0 x1 x2 x3, ofWds_lt h0 h1 h2 h3, ?_⟩
    obtain ⟨e0, e1, e2, e3⟩ := wd_ofWds h0 h1 h2 h3
    rw [e0, e1, e2, e3]
    rfl

end Go.Proofs.Ythmaijmjhfngpaa
