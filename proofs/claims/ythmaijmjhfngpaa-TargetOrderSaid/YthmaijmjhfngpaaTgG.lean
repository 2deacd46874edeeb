/- The law of what bits expand to, and of compact forms. -/
import Derived.Test.YthmaijmjhfngpaaTgF
namespace Go.Proofs.Ythmaijmjhfngpaa
open Go.RowKit

set_option maxRecDepth 100000 in
set_option maxHeartbeats 8000000 in
theorem expands_case (c v X : Nat) (e m n : Int) (w : World)
    (K1 : Hid (∀ w, Calls Try.prog 10 #[.int .u32 c] w (BRet (.tuple #[.agg #[.int .u64 (wd X 0 : Nat), .int .u64 (wd X 1 : Nat), .int .u64 (wd X 2 : Nat), .int .u64 (wd X 3 : Nat)], .int .i64 e]) w)))
    (K2 : Hid (∀ w, Calls Try.prog 11 #[.int .u32 c] w (BRet (.tuple #[.agg #[.int .u64 (wd X 0 : Nat), .int .u64 (wd X 1 : Nat), .int .u64 (wd X 2 : Nat), .int .u64 (wd X 3 : Nat)], .int .i64 e]) w)))
    (K3 : Hid (∀ w, Calls Try.prog 12 #[.agg #[.int .u64 (wd v 0 : Nat), .int .u64 (wd v 1 : Nat), .int .u64 (wd v 2 : Nat), .int .u64 (wd v 3 : Nat)]] w (BRet (.int .u32 m) w)))
    (K4 : Hid (∀ w, Calls Try.prog 13 #[.agg #[.int .u64 (wd v 0 : Nat), .int .u64 (wd v 1 : Nat), .int .u64 (wd v 2 : Nat), .int .u64 (wd v 3 : Nat)]] w (BRet (.int .u32 m) w)))
    (K5 : Hid (∀ w, Calls Try.prog 12 #[.agg #[.int .u64 (wd X 0 : Nat), .int .u64 (wd X 1 : Nat), .int .u64 (wd X 2 : Nat), .int .u64 (wd X 3 : Nat)]] w (BRet (.int .u32 n) w)))
    (K6 : Hid (∀ w, Calls Try.prog 13 #[.agg #[.int .u64 (wd X 0 : Nat), .int .u64 (wd X 1 : Nat), .int .u64 (wd X 2 : Nat), .int .u64 (wd X 3 : Nat)]] w (BRet (.int .u32 n) w)))
    (AW : Hid (∀ w, Calls Try.prog 14 #[] w (BRet (.bool true) w))) :
    Calls Try.prog 3 #[.int .u32 c, .agg #[.int .u64 (wd v 0 : Nat), .int .u64 (wd v 1 : Nat), .int .u64 (wd v 2 : Nat), .int .u64 (wd v 3 : Nat)]] w (BRet (.bool true) w) := by
  have E1 := eqW_same (wd X 0 : Nat) (wd X 1 : Nat) (wd X 2 : Nat) (wd X 3 : Nat)
  go_enter Try.func3, Try.ntmps3
  go_wp2_with fail
  refine (K1.out _).mono ?_
  rintro e w1 ⟨rfl, hb1⟩
  have Hv1 := Lib.hid ((show IsBlk _ (w.heap.size) 25 #[.int .u64 (wd v 0 : Nat), .int .u64 (wd v 1 : Nat), .int .u64 (wd v 2 : Nat), .int .u64 (wd v 3 : Nat)] from (IsBlk.newAt _ _ rfl)).after hb1)
  have HB1 := Lib.hid ((show Below w.heap.size w _ from by repeat' (first | exact Below.refl _ _ | refine bel_drewN ?_ _ | refine Below.drew ?_ | refine Below.alloc ?_ ?_ _ | refine Below.setCell ?_ ?_ _ | exact Nat.le_refl _ | (simp; done) | (simp; omega) | assumption)).trans (hb1.mono (by simp <;> omega)))
  clear hb1
  go_wp2_with fail
  refine (K2.out _).mono ?_
  rintro e w2 ⟨rfl, hb2⟩
  have Hv2 := Lib.hid ((Hv1.out.alloc _).after hb2)
  have Hx2 := Lib.hid ((show IsBlk _ (w1.heap.size) 25 #[.int .u64 (wd X 0 : Nat), .int .u64 (wd X 1 : Nat), .int .u64 (wd X 2 : Nat), .int .u64 (wd X 3 : Nat)] from (IsBlk.newAt _ _ rfl)).after hb2)
  have HB2 := Lib.hid (bel_on (bel_al HB1.out _) hb2)
  clear hb2
  clear Hv1 HB1
  go_wp2_with fail
  refine wp_region_seq (S := fun w' => (RB w' w.heap.size v ∧ RB w' w1.heap.size X ∧ RB w' w2.heap.size X ∧ Below w.heap.size w w')) (by kernel_rfl) (by kernel_rfl) ⟨RB.of (Hv2.out.alloc _).drew, RB.of (Hx2.out.alloc _).drew, RB.of (IsBlk.new _ _ _).drew, (bel_al HB2.out _).drew⟩ ?_
  have HST := Lib.hid (show ∀ w1' w2', (RB w1' w.heap.size v ∧ RB w1' w1.heap.size X ∧ RB w1' w2.heap.size X ∧ Below w.heap.size w w1') → Below w1'.heap.size w1' w2' → (RB w2' w.heap.size v ∧ RB w2' w1.heap.size X ∧ RB w2' w2.heap.size X ∧ Below w.heap.size w w2') from fun _ _ h hb => ⟨h.1.later hb, h.2.1.later hb, h.2.2.1.later hb, bel_on h.2.2.2 hb⟩)
  generalize w2.heap.size = g2 at *
  generalize w1.heap.size = g1 at *
  generalize hgw : w.heap.size = gw at *
  have HGW := Lib.hid hgw
  clear hgw
  repeat (first
    | (refine SeqS.skip ?_ ?_; rfl; (try simp only [Act.put, List.setIfInBounds_toArray, List.set_cons_zero, List.set_cons_succ]))
    | (refine SeqS.take (v := ?_) ?_ ?_ ?_; rotate_left; rfl; (intro w hS; simp only [RB] at hS; go_simp; with_reducible rfl); (try simp only [Act.put, List.setIfInBounds_toArray, List.set_cons_zero, List.set_cons_succ]))
    | (refine SeqS.call (v := ?_) (f := ?_) (args := ?_) ?_ ?_ ?_ ?_; rotate_left 3; rfl; (intro w hS; simp only [RB] at hS; go_simp; (first | with_reducible rfl | (refine ⟨?_, ?_⟩ <;> with_reducible rfl))); (intro w hS; first | ((with_reducible refine (K3.out _).mono ?_); rintro e w' ⟨rfl, hb⟩; refine ⟨?_, HST.out _ _ hS hb⟩; with_reducible rfl) | ((with_reducible refine (K4.out _).mono ?_); rintro e w' ⟨rfl, hb⟩; refine ⟨?_, HST.out _ _ hS hb⟩; with_reducible rfl) | ((with_reducible refine (K5.out _).mono ?_); rintro e w' ⟨rfl, hb⟩; refine ⟨?_, HST.out _ _ hS hb⟩; with_reducible rfl) | ((with_reducible refine (K6.out _).mono ?_); rintro e w' ⟨rfl, hb⟩; refine ⟨?_, HST.out _ _ hS hb⟩; with_reducible rfl) | ((with_reducible refine (AW.out _).mono ?_); rintro e w' ⟨rfl, hb⟩; refine ⟨?_, HST.out _ _ hS hb⟩; with_reducible rfl)); (try simp only [Act.put, List.setIfInBounds_toArray, List.set_cons_zero, List.set_cons_succ])))
  refine SeqS.done ?_
  rintro wz ⟨_, _, _, hbz⟩
  go_wp2_with fail
  go_ret
  exact ⟨rfl, by rw [HGW.out]; exact hbz⟩
theorem u32_nat {x : Int} (h : (Lit.int .u32 x).wf = true) : ∃ n : Nat, x = (n : Int) ∧ n < 4294967296 := by
  have h2 := wf_u32 h
  exact ⟨x.toNat, by omega, by omega⟩
theorem law_TargetExpands {H : Type} {enc : TypeId × Value → H} (W : World) (base : Nat) (v0 v1 : Value) (d0 d1 : DataW H) (p0 p1 : List MemPlace)
    (h0 : DataW.Trod enc Try.prog W 0 (fun _ => true) true 22 v0 d0 p0) (h1 : DataW.Trod enc Try.prog W 0 (fun _ => true) true 25 v1 d1 p1)
    (o0 : Value.okWide Try.prog W .any base 22 v0) (o1 : Value.okWide Try.prog W .any base 25 v1) :
    Calls Try.prog 3 #[v0, v1] W fun e w' => e = .returned (.bool true) ∧ Below W.heap.size W w' := by
  obtain ⟨z, rfl, hz⟩ := in_int Try.underlying22 h0 o0
  obtain ⟨c, rfl, hc⟩ := u32_nat hz
  obtain ⟨v, hv, rfl⟩ := in_wide h1 o1
  exact expands_case c v (xN c) (xE c) _ _ W (Lib.hid fun w => expand_any c w hc) (Lib.hid fun w => refExpand_any c w hc) (Lib.hid fun w => compact_any v w hv) (Lib.hid fun w => refCompact_any v w hv)
    (Lib.hid fun w => compact_any _ w (xN_lt c)) (Lib.hid fun w => refCompact_any _ w (xN_lt c)) (Lib.hid works_any)
end Go.Proofs.Ythmaijmjhfngpaa
