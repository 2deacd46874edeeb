/- Numbers of four words: the law of sums, differences, order and bytes, beside the reference. -/
import Derived.Test.YtncfgllcleidnaaWideQ
namespace Go.Proofs.Ytncfgllcleidnaa
open Go.RowKit

theorem SeqS.long {P : Program} {ops : Array Oper} {Q : Exit → Act → World → Prop} {S : World → Prop} {o : Oper} {os : List Oper} {a : Act} (t : TypeId) (v : Value) {x : Operand} {p : Addr} (hw : Region.wanted o (yielded ops a.tmps) = true) (ho : o.op = .load t x) (hx : a.eval x = .pointer (some p))
    (h : ∀ w, S w → (loadVar t p).run P w = .ok v w) (hr : SeqS P ops S Q os (a.put o.dst v)) : SeqS P ops S Q (o :: os) a :=
  SeqS.take hw (fun w hS => by
    unfold execOp
    simp only [ho, hx, Instr.loadAt, Instr.sureAddr, Sem.run_bind, Sem.run_pure, Result.andThen_ok, h w hS]) hr

set_option maxRecDepth 100000 in
set_option maxHeartbeats 8000000 in
theorem sums_case (a b S D N F : Nat) (M : Int) (ov less : Bool) (ch : Array Value) (hch : ch.size = 32) (w : World)
    (K1 : Hid (∀ w, Calls Try.prog 18 #[.agg #[.int .u64 (wd a 0 : Nat), .int .u64 (wd a 1 : Nat), .int .u64 (wd a 2 : Nat), .int .u64 (wd a 3 : Nat)], .agg #[.int .u64 (wd b 0 : Nat), .int .u64 (wd b 1 : Nat), .int .u64 (wd b 2 : Nat), .int .u64 (wd b 3 : Nat)]] w (BRet (.tuple #[.agg #[.int .u64 (wd S 0 : Nat), .int .u64 (wd S 1 : Nat), .int .u64 (wd S 2 : Nat), .int .u64 (wd S 3 : Nat)], .bool ov]) w)))
    (K2 : Hid (∀ w, Calls Try.prog 19 #[.agg #[.int .u64 (wd a 0 : Nat), .int .u64 (wd a 1 : Nat), .int .u64 (wd a 2 : Nat), .int .u64 (wd a 3 : Nat)], .agg #[.int .u64 (wd b 0 : Nat), .int .u64 (wd b 1 : Nat), .int .u64 (wd b 2 : Nat), .int .u64 (wd b 3 : Nat)]] w (BRet (.tuple #[.agg #[.int .u64 (wd S 0 : Nat), .int .u64 (wd S 1 : Nat), .int .u64 (wd S 2 : Nat), .int .u64 (wd S 3 : Nat)], .bool ov]) w)))
    (K3 : Hid (∀ w, Calls Try.prog 20 #[.agg #[.int .u64 (wd a 0 : Nat), .int .u64 (wd a 1 : Nat), .int .u64 (wd a 2 : Nat), .int .u64 (wd a 3 : Nat)], .agg #[.int .u64 (wd b 0 : Nat), .int .u64 (wd b 1 : Nat), .int .u64 (wd b 2 : Nat), .int .u64 (wd b 3 : Nat)]] w (BRet (.tuple #[.agg #[.int .u64 (wd D 0 : Nat), .int .u64 (wd D 1 : Nat), .int .u64 (wd D 2 : Nat), .int .u64 (wd D 3 : Nat)], .bool less]) w)))
    (K4 : Hid (∀ w, Calls Try.prog 21 #[.agg #[.int .u64 (wd a 0 : Nat), .int .u64 (wd a 1 : Nat), .int .u64 (wd a 2 : Nat), .int .u64 (wd a 3 : Nat)], .agg #[.int .u64 (wd b 0 : Nat), .int .u64 (wd b 1 : Nat), .int .u64 (wd b 2 : Nat), .int .u64 (wd b 3 : Nat)]] w (BRet (.tuple #[.agg #[.int .u64 (wd D 0 : Nat), .int .u64 (wd D 1 : Nat), .int .u64 (wd D 2 : Nat), .int .u64 (wd D 3 : Nat)], .bool less]) w)))
    (K5 : Hid (∀ w, Calls Try.prog 22 #[.agg #[.int .u64 (wd a 0 : Nat), .int .u64 (wd a 1 : Nat), .int .u64 (wd a 2 : Nat), .int .u64 (wd a 3 : Nat)], .agg #[.int .u64 (wd b 0 : Nat), .int .u64 (wd b 1 : Nat), .int .u64 (wd b 2 : Nat), .int .u64 (wd b 3 : Nat)]] w (BRet (.int .i64 M) w)))
    (K6 : Hid (∀ w, Calls Try.prog 23 #[.agg #[.int .u64 (wd a 0 : Nat), .int .u64 (wd a 1 : Nat), .int .u64 (wd a 2 : Nat), .int .u64 (wd a 3 : Nat)], .agg #[.int .u64 (wd b 0 : Nat), .int .u64 (wd b 1 : Nat), .int .u64 (wd b 2 : Nat), .int .u64 (wd b 3 : Nat)]] w (BRet (.int .i64 M) w)))
    (K7 : Hid (∀ w, Calls Try.prog 24 #[.agg #[.int .u64 (wd a 0 : Nat), .int .u64 (wd a 1 : Nat), .int .u64 (wd a 2 : Nat), .int .u64 (wd a 3 : Nat)]] w (BRet (.agg #[.int .u64 (wd N 0 : Nat), .int .u64 (wd N 1 : Nat), .int .u64 (wd N 2 : Nat), .int .u64 (wd N 3 : Nat)]) w)))
    (K8 : Hid (∀ w, Calls Try.prog 25 #[.agg #[.int .u64 (wd a 0 : Nat), .int .u64 (wd a 1 : Nat), .int .u64 (wd a 2 : Nat), .int .u64 (wd a 3 : Nat)]] w (BRet (.agg #[.int .u64 (wd N 0 : Nat), .int .u64 (wd N 1 : Nat), .int .u64 (wd N 2 : Nat), .int .u64 (wd N 3 : Nat)]) w)))
    (K9 : Hid (∀ w, Calls Try.prog 26 #[.agg ch] w (BRet (.agg #[.int .u64 (wd F 0 : Nat), .int .u64 (wd F 1 : Nat), .int .u64 (wd F 2 : Nat), .int .u64 (wd F 3 : Nat)]) w)))
    (K10 : Hid (∀ w, Calls Try.prog 27 #[.agg ch] w (BRet (.agg #[.int .u64 (wd F 0 : Nat), .int .u64 (wd F 1 : Nat), .int .u64 (wd F 2 : Nat), .int .u64 (wd F 3 : Nat)]) w)))
    (K11 : Hid (∀ w, Calls Try.prog 28 #[.agg #[.int .u64 (wd a 0 : Nat), .int .u64 (wd a 1 : Nat), .int .u64 (wd a 2 : Nat), .int .u64 (wd a 3 : Nat)]] w (BRet (.agg (bytesV a)) w)))
    (K12 : Hid (∀ w, Calls Try.prog 29 #[.agg #[.int .u64 (wd a 0 : Nat), .int .u64 (wd a 1 : Nat), .int .u64 (wd a 2 : Nat), .int .u64 (wd a 3 : Nat)]] w (BRet (.agg (bytesV a)) w)))
    (AW : Hid (∀ w, Calls Try.prog 15 #[] w (BRet (.bool true) w)))
    (E1 : ∀ w, (binOp .eql 24 (.agg #[.int .u64 (wd S 0 : Nat), .int .u64 (wd S 1 : Nat), .int .u64 (wd S 2 : Nat), .int .u64 (wd S 3 : Nat)]) (.agg #[.int .u64 (wd S 0 : Nat), .int .u64 (wd S 1 : Nat), .int .u64 (wd S 2 : Nat), .int .u64 (wd S 3 : Nat)])).run Try.prog w = .ok (.bool true) w)
    (E2 : ∀ w, (binOp .eql 24 (.agg #[.int .u64 (wd D 0 : Nat), .int .u64 (wd D 1 : Nat), .int .u64 (wd D 2 : Nat), .int .u64 (wd D 3 : Nat)]) (.agg #[.int .u64 (wd D 0 : Nat), .int .u64 (wd D 1 : Nat), .int .u64 (wd D 2 : Nat), .int .u64 (wd D 3 : Nat)])).run Try.prog w = .ok (.bool true) w)
    (E3 : ∀ w, (binOp .eql 24 (.agg #[.int .u64 (wd N 0 : Nat), .int .u64 (wd N 1 : Nat), .int .u64 (wd N 2 : Nat), .int .u64 (wd N 3 : Nat)]) (.agg #[.int .u64 (wd N 0 : Nat), .int .u64 (wd N 1 : Nat), .int .u64 (wd N 2 : Nat), .int .u64 (wd N 3 : Nat)])).run Try.prog w = .ok (.bool true) w)
    (E4 : ∀ w, (binOp .eql 24 (.agg #[.int .u64 (wd F 0 : Nat), .int .u64 (wd F 1 : Nat), .int .u64 (wd F 2 : Nat), .int .u64 (wd F 3 : Nat)]) (.agg #[.int .u64 (wd F 0 : Nat), .int .u64 (wd F 1 : Nat), .int .u64 (wd F 2 : Nat), .int .u64 (wd F 3 : Nat)])).run Try.prog w = .ok (.bool true) w)
    (E5 : ∀ w, (binOp .eql 34 (.agg (bytesV a)) (.agg (bytesV a))).run Try.prog w = .ok (.bool true) w) :
    Calls Try.prog 5 #[.agg #[.int .u64 (wd a 0 : Nat), .int .u64 (wd a 1 : Nat), .int .u64 (wd a 2 : Nat), .int .u64 (wd a 3 : Nat)], .agg #[.int .u64 (wd b 0 : Nat), .int .u64 (wd b 1 : Nat), .int .u64 (wd b 2 : Nat), .int .u64 (wd b 3 : Nat)], .agg ch] w (BRet (.bool true) w) := by
  have HCH := Lib.hid hch
  clear hch
  generalize bytesV a = bs at *
  go_enter Try.func5, Try.ntmps5
  go_wp2_with fail
  refine (K1.out _).mono ?_
  rintro e w1 ⟨rfl, hb1⟩
  have hA1 := (show IsBlk _ w.heap.size 24 #[.int .u64 (wd a 0 : Nat), .int .u64 (wd a 1 : Nat), .int .u64 (wd a 2 : Nat), .int .u64 (wd a 3 : Nat)] from by repeat' (first | with_reducible assumption | with_reducible refine IsBlk.drewN ?_ _ | with_reducible refine IsBlk.drew ?_ | with_reducible refine IsBlk.newAt _ _ ?_ | with_reducible refine IsBlk.alloc ?_ _ | with_reducible refine IsBlk.far ?_ ?_ _ | (simp; done) | (simp; omega))).after hb1
  have hBB1 := (show IsBlk _ (w.heap.size + 1) 24 #[.int .u64 (wd b 0 : Nat), .int .u64 (wd b 1 : Nat), .int .u64 (wd b 2 : Nat), .int .u64 (wd b 3 : Nat)] from by repeat' (first | with_reducible assumption | with_reducible refine IsBlk.drewN ?_ _ | with_reducible refine IsBlk.drew ?_ | with_reducible refine IsBlk.newAt _ _ ?_ | with_reducible refine IsBlk.alloc ?_ _ | with_reducible refine IsBlk.far ?_ ?_ _ | (simp; done) | (simp; omega))).after hb1
  have hC1 := (show IsBlk _ (w.heap.size + 1 + 1) 34 ch from by repeat' (first | with_reducible assumption | with_reducible refine IsBlk.drewN ?_ _ | with_reducible refine IsBlk.drew ?_ | with_reducible refine IsBlk.newAt _ _ ?_ | with_reducible refine IsBlk.alloc ?_ _ | with_reducible refine IsBlk.far ?_ ?_ _ | (simp; done) | (simp; omega))).after hb1
  have B1 := (show Below w.heap.size w _ from by repeat' (first | exact Below.refl _ _ | refine bel_drewN ?_ _ | refine Below.drew ?_ | refine Below.alloc ?_ ?_ _ | refine Below.setCell ?_ ?_ _ | exact Nat.le_refl _ | (simp; done) | (simp; omega) | assumption)).trans (hb1.mono (by simp <;> omega))
  clear hb1
  have r0 := hA1.cell 0
  have r1 := hA1.cell 1
  have r2 := hA1.cell 2
  have r3 := hA1.cell 3
  simp at r0 r1 r2 r3
  have frr := hA1.free
  have s0 := hBB1.cell 0
  have s1 := hBB1.cell 1
  have s2 := hBB1.cell 2
  have s3 := hBB1.cell 3
  simp at s0 s1 s2 s3
  have frs := hBB1.free
  have la := hA1.lt
  have lb := hBB1.lt
  go_wp2_with fail
  refine (K2.out _).mono ?_
  rintro e w2 ⟨rfl, hb2⟩
  have hA2 := (laid_old hA1 S).after hb2
  have hBB2 := (laid_old hBB1 S).after hb2
  have hC2 := (laid_old hC1 S).after hb2
  have hS2 := (laid_new w1 S).after hb2
  have B2 := bel_on (bel_laid B1 S) hb2
  clear hb2 s0 s1 s2 s3 frs la lb r0 r1 r2 r3 frr hA1 hBB1 hC1 B1
  have r0 := hA2.cell 0
  have r1 := hA2.cell 1
  have r2 := hA2.cell 2
  have r3 := hA2.cell 3
  simp at r0 r1 r2 r3
  have frr := hA2.free
  have s0 := hBB2.cell 0
  have s1 := hBB2.cell 1
  have s2 := hBB2.cell 2
  have s3 := hBB2.cell 3
  simp at s0 s1 s2 s3
  have frs := hBB2.free
  have la := hA2.lt
  have lb := hBB2.lt
  go_wp2_with fail
  refine (K3.out _).mono ?_
  rintro e w3 ⟨rfl, hb3⟩
  have hA3 := (laid_old hA2 S).after hb3
  have hBB3 := (laid_old hBB2 S).after hb3
  have hC3 := (laid_old hC2 S).after hb3
  have hS3 := (laid_old hS2 S).after hb3
  have hT3 := (laid_new w2 S).after hb3
  have B3 := bel_on (bel_laid B2 S) hb3
  clear hb3 s0 s1 s2 s3 frs la lb r0 r1 r2 r3 frr hA2 hBB2 hC2 hS2 B2
  have r0 := hA3.cell 0
  have r1 := hA3.cell 1
  have r2 := hA3.cell 2
  have r3 := hA3.cell 3
  simp at r0 r1 r2 r3
  have frr := hA3.free
  have s0 := hBB3.cell 0
  have s1 := hBB3.cell 1
  have s2 := hBB3.cell 2
  have s3 := hBB3.cell 3
  simp at s0 s1 s2 s3
  have frs := hBB3.free
  have la := hA3.lt
  have lb := hBB3.lt
  go_wp2_with fail
  refine (K4.out _).mono ?_
  rintro e w4 ⟨rfl, hb4⟩
  have hA4 := (laid_old hA3 D).after hb4
  have hBB4 := (laid_old hBB3 D).after hb4
  have hC4 := (laid_old hC3 D).after hb4
  have hS4 := (laid_old hS3 D).after hb4
  have hT4 := (laid_old hT3 D).after hb4
  have hD4 := (laid_new w3 D).after hb4
  have B4 := bel_on (bel_laid B3 D) hb4
  clear hb4 s0 s1 s2 s3 frs la lb r0 r1 r2 r3 frr hA3 hBB3 hC3 hS3 hT3 B3
  go_wp2_with fail
  have HLD := Lib.hid (fun w' (h : IsBlk w' (w.heap.size + 1 + 1) 34 ch) => hash_load HCH.out h)
  refine wp_region_seq (S := fun w' => RB w' w.heap.size a ∧ RB w' (w.heap.size + 1) b ∧ IsBlk w' (w.heap.size + 1 + 1) 34 ch ∧ RB w' w1.heap.size S ∧ RB w' w2.heap.size S ∧ RB w' w3.heap.size D ∧ RB w' w4.heap.size D ∧ Below w.heap.size w w') (by kernel_rfl) (by kernel_rfl)
    ⟨RB.of (hA4.alloc _).drew, RB.of (hBB4.alloc _).drew, (hC4.alloc _).drew, RB.of (hS4.alloc _).drew, RB.of (hT4.alloc _).drew, RB.of (hD4.alloc _).drew, RB.of (IsBlk.new _ _ _).drew, (B4.alloc B4.size _).drew⟩ ?_
  have HST := Lib.hid (show ∀ w1' w2', (RB w1' w.heap.size a ∧ RB w1' (w.heap.size + 1) b ∧ IsBlk w1' (w.heap.size + 1 + 1) 34 ch ∧ RB w1' w1.heap.size S ∧ RB w1' w2.heap.size S ∧ RB w1' w3.heap.size D ∧ RB w1' w4.heap.size D ∧ Below w.heap.size w w1') → Below w1'.heap.size w1' w2' → (RB w2' w.heap.size a ∧ RB w2' (w.heap.size + 1) b ∧ IsBlk w2' (w.heap.size + 1 + 1) 34 ch ∧ RB w2' w1.heap.size S ∧ RB w2' w2.heap.size S ∧ RB w2' w3.heap.size D ∧ RB w2' w4.heap.size D ∧ Below w.heap.size w w2') from
    fun _ _ h hb => ⟨h.1.later hb, h.2.1.later hb, h.2.2.1.after hb, h.2.2.2.1.later hb, h.2.2.2.2.1.later hb, h.2.2.2.2.2.1.later hb, h.2.2.2.2.2.2.1.later hb, bel_on h.2.2.2.2.2.2.2 hb⟩)
  clear hA4 hBB4 hC4 hS4 hT4 hD4 B4
  repeat (first
    | (refine SeqS.skip ?_ ?_; rfl; (try simp only [Act.put, List.setIfInBounds_toArray, List.set_cons_zero, List.set_cons_succ]))
    | (refine SeqS.long 34 (.agg ch) ?_ rfl rfl (fun w hS => HLD.out w hS.2.2.1) ?_; rfl; (try simp only [Act.put, List.setIfInBounds_toArray, List.set_cons_zero, List.set_cons_succ]))
    | (refine SeqS.take (v := ?_) ?_ ?_ ?_; rotate_left; rfl; (intro w hS; simp only [RB] at hS; go_simp; with_reducible rfl); (try simp only [Act.put, List.setIfInBounds_toArray, List.set_cons_zero, List.set_cons_succ]))
    | (refine SeqS.call (v := ?_) (f := ?_) (args := ?_) ?_ ?_ ?_ ?_; rotate_left 3; rfl; (intro w hS; simp only [RB] at hS; go_simp; (first | with_reducible rfl | (refine ⟨?_, ?_⟩ <;> with_reducible rfl))); (intro w hS; first | ((with_reducible refine (K5.out _).mono ?_); rintro e w' ⟨rfl, hb⟩; refine ⟨?_, HST.out _ _ hS hb⟩; with_reducible rfl) | ((with_reducible refine (K6.out _).mono ?_); rintro e w' ⟨rfl, hb⟩; refine ⟨?_, HST.out _ _ hS hb⟩; with_reducible rfl) | ((with_reducible refine (K7.out _).mono ?_); rintro e w' ⟨rfl, hb⟩; refine ⟨?_, HST.out _ _ hS hb⟩; with_reducible rfl) | ((with_reducible refine (K8.out _).mono ?_); rintro e w' ⟨rfl, hb⟩; refine ⟨?_, HST.out _ _ hS hb⟩; with_reducible rfl) | ((with_reducible refine (K9.out _).mono ?_); rintro e w' ⟨rfl, hb⟩; refine ⟨?_, HST.out _ _ hS hb⟩; with_reducible rfl) | ((with_reducible refine (K10.out _).mono ?_); rintro e w' ⟨rfl, hb⟩; refine ⟨?_, HST.out _ _ hS hb⟩; with_reducible rfl) | ((with_reducible refine (K11.out _).mono ?_); rintro e w' ⟨rfl, hb⟩; refine ⟨?_, HST.out _ _ hS hb⟩; with_reducible rfl) | ((with_reducible refine (K12.out _).mono ?_); rintro e w' ⟨rfl, hb⟩; refine ⟨?_, HST.out _ _ hS hb⟩; with_reducible rfl) | ((with_reducible refine (AW.out _).mono ?_); rintro e w' ⟨rfl, hb⟩; refine ⟨?_, HST.out _ _ hS hb⟩; with_reducible rfl)); (try simp only [Act.put, List.setIfInBounds_toArray, List.set_cons_zero, List.set_cons_succ])))
  refine SeqS.done ?_
  rintro wz ⟨_, _, _, _, _, _, _, hbz⟩
  go_wp2_with fail
  go_ret
  exact ⟨rfl, hbz⟩

theorem sums_walk (a b : Nat) (f : Nat → Nat) (ch : Array Value) (w : World) (ha : a < w256) (hb : b < w256) (hf : ∀ j, f j < 256) (hs : ch.size = 32) (hc : FillB f 32 ch) : Calls Try.prog 5 #[.agg #[.int .u64 (wd a 0 : Nat), .int .u64 (wd a 1 : Nat), .int .u64 (wd a 2 : Nat), .int .u64 (wd a 3 : Nat)], .agg #[.int .u64 (wd b 0 : Nat), .int .u64 (wd b 1 : Nat), .int .u64 (wd b 2 : Nat), .int .u64 (wd b 3 : Nat)], .agg ch] w (BRet (.bool true) w) :=
  sums_case a b (addN a b) (subN a b) (notN a) (ofBits (bitsOf f) 256) (cmpN a b) (addOv a b) (subLess a b) ch hs w
    (Lib.hid fun w => add_any a b w ha hb) (Lib.hid fun w => refAdd_any a b w ha hb) (Lib.hid fun w => sub_any a b w ha hb) (Lib.hid fun w => refSub_any a b w ha hb) (Lib.hid fun w => cmp_any a b w ha hb) (Lib.hid fun w => refCmp_any a b w ha hb)
    (Lib.hid fun w => not_any a w ha) (Lib.hid fun w => refNot_any a w ha) (Lib.hid (from_any f hf ch hs hc)) (Lib.hid (refFrom_any f hf ch hs hc)) (Lib.hid (to_any a)) (Lib.hid fun w => refTo_any a w ha) (Lib.hid awake_any)
    (eqW_same _ _ _ _) (eqW_same _ _ _ _) (eqW_same _ _ _ _) (eqW_same _ _ _ _) (hash_eq a)

theorem law_WideSums {H : Type} {enc : TypeId × Value → H} (W : World) (base : Nat) (v0 v1 v2 : Value) (d0 d1 d2 : DataW H) (p0 p1 p2 : List MemPlace)
    (h0 : DataW.Trod enc Try.prog W 0 (fun _ => true) true 24 v0 d0 p0) (h1 : DataW.Trod enc Try.prog W 0 (fun _ => true) true 24 v1 d1 p1) (h2 : DataW.Trod enc Try.prog W 0 (fun _ => true) true 34 v2 d2 p2)
    (o0 : Value.okWide Try.prog W .any base 24 v0) (o1 : Value.okWide Try.prog W .any base 24 v1) (o2 : Value.okWide Try.prog W .any base 34 v2) :
    Calls Try.prog 5 #[v0, v1, v2] W fun e w' => e = .returned (.bool true) ∧ Below W.heap.size W w' := by
  obtain ⟨zs, hl, rfl, hz⟩ := in_array Try.underlying24 Try.underlying22 (by kernel_rfl) (by kernel_rfl) h0 o0
  obtain ⟨ys, hl1, rfl, hy⟩ := in_array Try.underlying24 Try.underlying22 (by kernel_rfl) (by kernel_rfl) h1 o1
  obtain ⟨f, ch, rfl, hs, hc, hf, _⟩ := in_bytes32 h2 o2
  obtain ⟨a, ha, e⟩ := wide_of hl hz
  obtain ⟨b, hb, e1⟩ := wide_of hl1 hy
  rw [e, e1]
  exact sums_walk a b f ch W ha hb hf hs hc
end Go.Proofs.Ytncfgllcleidnaa
