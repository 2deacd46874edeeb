/- Numbers of four words: the law of sums and differences. -/
import Derived.Test.YtncfgllcleidnaaWideM
import Derived.Test.YtncfgllcleidnaaSeq
import Derived.WalkSpells
namespace Go.Proofs.Ytncfgllcleidnaa
open Go.RowKit

theorem eqW_ne {a b : Nat} (ha : a < w256) (hb : b < w256) (h : a ≠ b) (w : World) : (binOp .eql 24 (.agg #[.int .u64 (wd a 0 : Nat), .int .u64 (wd a 1 : Nat), .int .u64 (wd a 2 : Nat), .int .u64 (wd a 3 : Nat)]) (.agg #[.int .u64 (wd b 0 : Nat), .int .u64 (wd b 1 : Nat), .int .u64 (wd b 2 : Nat), .int .u64 (wd b 3 : Nat)])).run Try.prog w = .ok (.bool false) w := by
  rw [eqW]
  congr 2
  cases hc : ([((wd a 0 : Nat) : Int), ((wd a 1 : Nat) : Int), ((wd a 2 : Nat) : Int), ((wd a 3 : Nat) : Int)] == [((wd b 0 : Nat) : Int), ((wd b 1 : Nat) : Int), ((wd b 2 : Nat) : Int), ((wd b 3 : Nat) : Int)])
  · rfl
  · simp at hc
    exact absurd (wd_ext ha hb (by omega) (by omega) (by omega) (by omega)) h

/-- A block of four words that hold this number. -/
def WB (w : World) (g n : Nat) : Prop := IsBlk w g 24 #[.int .u64 (wd n 0 : Nat), .int .u64 (wd n 1 : Nat), .int .u64 (wd n 2 : Nat), .int .u64 (wd n 3 : Nat)]
theorem WB.blk {w : World} {g n : Nat} (h : WB w g n) : IsBlk w g 24 #[.int .u64 (wd n 0 : Nat), .int .u64 (wd n 1 : Nat), .int .u64 (wd n 2 : Nat), .int .u64 (wd n 3 : Nat)] := h
/-- The words that a region may read of a number. -/
def RB (w : World) (g n : Nat) : Prop := w.cell? ⟨g, 0, none⟩ = some (.int .u64 (wd n 0 : Nat)) ∧ w.cell? ⟨g, 1, none⟩ = some (.int .u64 (wd n 1 : Nat)) ∧ w.cell? ⟨g, 2, none⟩ = some (.int .u64 (wd n 2 : Nat)) ∧ w.cell? ⟨g, 3, none⟩ = some (.int .u64 (wd n 3 : Nat))

theorem RB.of {w : World} {g n : Nat} (h : IsBlk w g 24 #[.int .u64 (wd n 0 : Nat), .int .u64 (wd n 1 : Nat), .int .u64 (wd n 2 : Nat), .int .u64 (wd n 3 : Nat)]) : RB w g n := by
  have h0 := h.cell 0
  have h1 := h.cell 1
  have h2 := h.cell 2
  have h3 := h.cell 3
  simp at h0 h1 h2 h3
  exact ⟨h0, h1, h2, h3⟩
theorem RB.later {w w' : World} {g n : Nat} (h : RB w g n) (hb : Below w.heap.size w w') : RB w' g n := ⟨cell_later hb h.1, cell_later hb h.2.1, cell_later hb h.2.2.1, cell_later hb h.2.2.2⟩

set_option maxRecDepth 100000 in
set_option maxHeartbeats 8000000 in
theorem ring_case (a b c S T U D N G : Nat) (M M' : Int) (L1 less eqv : Bool) (w : World)
    (K1 : Hid (∀ w, Calls Try.prog 30 #[.agg #[.int .u64 (wd a 0 : Nat), .int .u64 (wd a 1 : Nat), .int .u64 (wd a 2 : Nat), .int .u64 (wd a 3 : Nat)], .agg #[.int .u64 (wd b 0 : Nat), .int .u64 (wd b 1 : Nat), .int .u64 (wd b 2 : Nat), .int .u64 (wd b 3 : Nat)]] w (BRet (.agg #[.int .u64 (wd S 0 : Nat), .int .u64 (wd S 1 : Nat), .int .u64 (wd S 2 : Nat), .int .u64 (wd S 3 : Nat)]) w)))
    (K2 : Hid (∀ w, Calls Try.prog 20 #[.agg #[.int .u64 (wd S 0 : Nat), .int .u64 (wd S 1 : Nat), .int .u64 (wd S 2 : Nat), .int .u64 (wd S 3 : Nat)], .agg #[.int .u64 (wd b 0 : Nat), .int .u64 (wd b 1 : Nat), .int .u64 (wd b 2 : Nat), .int .u64 (wd b 3 : Nat)]] w (BRet (.tuple #[.agg #[.int .u64 (wd a 0 : Nat), .int .u64 (wd a 1 : Nat), .int .u64 (wd a 2 : Nat), .int .u64 (wd a 3 : Nat)], .bool L1]) w)))
    (K3 : Hid (∀ w, Calls Try.prog 20 #[.agg #[.int .u64 (wd a 0 : Nat), .int .u64 (wd a 1 : Nat), .int .u64 (wd a 2 : Nat), .int .u64 (wd a 3 : Nat)], .agg #[.int .u64 (wd b 0 : Nat), .int .u64 (wd b 1 : Nat), .int .u64 (wd b 2 : Nat), .int .u64 (wd b 3 : Nat)]] w (BRet (.tuple #[.agg #[.int .u64 (wd D 0 : Nat), .int .u64 (wd D 1 : Nat), .int .u64 (wd D 2 : Nat), .int .u64 (wd D 3 : Nat)], .bool less]) w)))
    (K4 : Hid (∀ w, Calls Try.prog 30 #[.agg #[.int .u64 (wd b 0 : Nat), .int .u64 (wd b 1 : Nat), .int .u64 (wd b 2 : Nat), .int .u64 (wd b 3 : Nat)], .agg #[.int .u64 (wd a 0 : Nat), .int .u64 (wd a 1 : Nat), .int .u64 (wd a 2 : Nat), .int .u64 (wd a 3 : Nat)]] w (BRet (.agg #[.int .u64 (wd S 0 : Nat), .int .u64 (wd S 1 : Nat), .int .u64 (wd S 2 : Nat), .int .u64 (wd S 3 : Nat)]) w)))
    (K5 : Hid (∀ w, Calls Try.prog 30 #[.agg #[.int .u64 (wd S 0 : Nat), .int .u64 (wd S 1 : Nat), .int .u64 (wd S 2 : Nat), .int .u64 (wd S 3 : Nat)], .agg #[.int .u64 (wd c 0 : Nat), .int .u64 (wd c 1 : Nat), .int .u64 (wd c 2 : Nat), .int .u64 (wd c 3 : Nat)]] w (BRet (.agg #[.int .u64 (wd T 0 : Nat), .int .u64 (wd T 1 : Nat), .int .u64 (wd T 2 : Nat), .int .u64 (wd T 3 : Nat)]) w)))
    (K6 : Hid (∀ w, Calls Try.prog 30 #[.agg #[.int .u64 (wd b 0 : Nat), .int .u64 (wd b 1 : Nat), .int .u64 (wd b 2 : Nat), .int .u64 (wd b 3 : Nat)], .agg #[.int .u64 (wd c 0 : Nat), .int .u64 (wd c 1 : Nat), .int .u64 (wd c 2 : Nat), .int .u64 (wd c 3 : Nat)]] w (BRet (.agg #[.int .u64 (wd U 0 : Nat), .int .u64 (wd U 1 : Nat), .int .u64 (wd U 2 : Nat), .int .u64 (wd U 3 : Nat)]) w)))
    (K7 : Hid (∀ w, Calls Try.prog 30 #[.agg #[.int .u64 (wd a 0 : Nat), .int .u64 (wd a 1 : Nat), .int .u64 (wd a 2 : Nat), .int .u64 (wd a 3 : Nat)], .agg #[.int .u64 (wd U 0 : Nat), .int .u64 (wd U 1 : Nat), .int .u64 (wd U 2 : Nat), .int .u64 (wd U 3 : Nat)]] w (BRet (.agg #[.int .u64 (wd T 0 : Nat), .int .u64 (wd T 1 : Nat), .int .u64 (wd T 2 : Nat), .int .u64 (wd T 3 : Nat)]) w)))
    (K8 : Hid (∀ w, Calls Try.prog 30 #[.agg #[.int .u64 (wd D 0 : Nat), .int .u64 (wd D 1 : Nat), .int .u64 (wd D 2 : Nat), .int .u64 (wd D 3 : Nat)], .agg #[.int .u64 (wd b 0 : Nat), .int .u64 (wd b 1 : Nat), .int .u64 (wd b 2 : Nat), .int .u64 (wd b 3 : Nat)]] w (BRet (.agg #[.int .u64 (wd a 0 : Nat), .int .u64 (wd a 1 : Nat), .int .u64 (wd a 2 : Nat), .int .u64 (wd a 3 : Nat)]) w)))
    (K9 : Hid (∀ w, Calls Try.prog 22 #[.agg #[.int .u64 (wd a 0 : Nat), .int .u64 (wd a 1 : Nat), .int .u64 (wd a 2 : Nat), .int .u64 (wd a 3 : Nat)], .agg #[.int .u64 (wd b 0 : Nat), .int .u64 (wd b 1 : Nat), .int .u64 (wd b 2 : Nat), .int .u64 (wd b 3 : Nat)]] w (BRet (.int .i64 M) w)))
    (K10 : Hid (∀ w, Calls Try.prog 24 #[.agg #[.int .u64 (wd a 0 : Nat), .int .u64 (wd a 1 : Nat), .int .u64 (wd a 2 : Nat), .int .u64 (wd a 3 : Nat)]] w (BRet (.agg #[.int .u64 (wd N 0 : Nat), .int .u64 (wd N 1 : Nat), .int .u64 (wd N 2 : Nat), .int .u64 (wd N 3 : Nat)]) w)))
    (K11 : Hid (∀ w, Calls Try.prog 30 #[.agg #[.int .u64 (wd a 0 : Nat), .int .u64 (wd a 1 : Nat), .int .u64 (wd a 2 : Nat), .int .u64 (wd a 3 : Nat)], .agg #[.int .u64 (wd N 0 : Nat), .int .u64 (wd N 1 : Nat), .int .u64 (wd N 2 : Nat), .int .u64 (wd N 3 : Nat)]] w (BRet (.agg #[.int .u64 (wd G 0 : Nat), .int .u64 (wd G 1 : Nat), .int .u64 (wd G 2 : Nat), .int .u64 (wd G 3 : Nat)]) w)))
    (K12 : Hid (∀ w, Calls Try.prog 31 #[] w (BRet (.agg #[.int .u64 (wd G 0 : Nat), .int .u64 (wd G 1 : Nat), .int .u64 (wd G 2 : Nat), .int .u64 (wd G 3 : Nat)]) w)))
    (K13 : Hid (∀ w, Calls Try.prog 22 #[.agg #[.int .u64 (wd b 0 : Nat), .int .u64 (wd b 1 : Nat), .int .u64 (wd b 2 : Nat), .int .u64 (wd b 3 : Nat)], .agg #[.int .u64 (wd a 0 : Nat), .int .u64 (wd a 1 : Nat), .int .u64 (wd a 2 : Nat), .int .u64 (wd a 3 : Nat)]] w (BRet (.int .i64 M') w)))
    (K14 : Hid (∀ w, Calls Try.prog 28 #[.agg #[.int .u64 (wd a 0 : Nat), .int .u64 (wd a 1 : Nat), .int .u64 (wd a 2 : Nat), .int .u64 (wd a 3 : Nat)]] w (BRet (.agg (bytesV a)) w)))
    (K15 : Hid (∀ w, Calls Try.prog 26 #[.agg (bytesV a)] w (BRet (.agg #[.int .u64 (wd a 0 : Nat), .int .u64 (wd a 1 : Nat), .int .u64 (wd a 2 : Nat), .int .u64 (wd a 3 : Nat)]) w)))
    (AW : Hid (∀ w, Calls Try.prog 15 #[] w (BRet (.bool true) w)))
    (E0 : ∀ w, (binOp .eql 24 (.agg #[.int .u64 (wd a 0 : Nat), .int .u64 (wd a 1 : Nat), .int .u64 (wd a 2 : Nat), .int .u64 (wd a 3 : Nat)]) (.agg #[.int .u64 (wd b 0 : Nat), .int .u64 (wd b 1 : Nat), .int .u64 (wd b 2 : Nat), .int .u64 (wd b 3 : Nat)])).run Try.prog w = .ok (.bool eqv) w)
    (E1 : ∀ w, (binOp .eql 24 (.agg #[.int .u64 (wd S 0 : Nat), .int .u64 (wd S 1 : Nat), .int .u64 (wd S 2 : Nat), .int .u64 (wd S 3 : Nat)]) (.agg #[.int .u64 (wd S 0 : Nat), .int .u64 (wd S 1 : Nat), .int .u64 (wd S 2 : Nat), .int .u64 (wd S 3 : Nat)])).run Try.prog w = .ok (.bool true) w)
    (E2 : ∀ w, (binOp .eql 24 (.agg #[.int .u64 (wd T 0 : Nat), .int .u64 (wd T 1 : Nat), .int .u64 (wd T 2 : Nat), .int .u64 (wd T 3 : Nat)]) (.agg #[.int .u64 (wd T 0 : Nat), .int .u64 (wd T 1 : Nat), .int .u64 (wd T 2 : Nat), .int .u64 (wd T 3 : Nat)])).run Try.prog w = .ok (.bool true) w)
    (E3 : ∀ w, (binOp .eql 24 (.agg #[.int .u64 (wd a 0 : Nat), .int .u64 (wd a 1 : Nat), .int .u64 (wd a 2 : Nat), .int .u64 (wd a 3 : Nat)]) (.agg #[.int .u64 (wd a 0 : Nat), .int .u64 (wd a 1 : Nat), .int .u64 (wd a 2 : Nat), .int .u64 (wd a 3 : Nat)])).run Try.prog w = .ok (.bool true) w)
    (E4 : ∀ w, (binOp .eql 24 (.agg #[.int .u64 (wd G 0 : Nat), .int .u64 (wd G 1 : Nat), .int .u64 (wd G 2 : Nat), .int .u64 (wd G 3 : Nat)]) (.agg #[.int .u64 (wd G 0 : Nat), .int .u64 (wd G 1 : Nat), .int .u64 (wd G 2 : Nat), .int .u64 (wd G 3 : Nat)])).run Try.prog w = .ok (.bool true) w)
    (q1 : decide (M < 0) = less) (q2 : (M == 0) = eqv) (q3 : IntKind.i64.wrap (-M') = M) :
    Calls Try.prog 6 #[.agg #[.int .u64 (wd a 0 : Nat), .int .u64 (wd a 1 : Nat), .int .u64 (wd a 2 : Nat), .int .u64 (wd a 3 : Nat)], .agg #[.int .u64 (wd b 0 : Nat), .int .u64 (wd b 1 : Nat), .int .u64 (wd b 2 : Nat), .int .u64 (wd b 3 : Nat)], .agg #[.int .u64 (wd c 0 : Nat), .int .u64 (wd c 1 : Nat), .int .u64 (wd c 2 : Nat), .int .u64 (wd c 3 : Nat)]] w (BRet (.bool true) w) := by
  go_enter Try.func6, Try.ntmps6
  go_wp2_with fail
  refine (K1.out _).mono ?_
  rintro e w1 ⟨rfl, hb1⟩
  have hA1 := (show IsBlk _ w.heap.size 24 #[.int .u64 (wd a 0 : Nat), .int .u64 (wd a 1 : Nat), .int .u64 (wd a 2 : Nat), .int .u64 (wd a 3 : Nat)] from by repeat' (first | with_reducible assumption | with_reducible refine IsBlk.drewN ?_ _ | with_reducible refine IsBlk.drew ?_ | with_reducible refine IsBlk.newAt _ _ ?_ | with_reducible refine IsBlk.alloc ?_ _ | with_reducible refine IsBlk.far ?_ ?_ _ | (simp; done) | (simp; omega))).after hb1
  have hBB1 := (show IsBlk _ (w.heap.size + 1) 24 #[.int .u64 (wd b 0 : Nat), .int .u64 (wd b 1 : Nat), .int .u64 (wd b 2 : Nat), .int .u64 (wd b 3 : Nat)] from by repeat' (first | with_reducible assumption | with_reducible refine IsBlk.drewN ?_ _ | with_reducible refine IsBlk.drew ?_ | with_reducible refine IsBlk.newAt _ _ ?_ | with_reducible refine IsBlk.alloc ?_ _ | with_reducible refine IsBlk.far ?_ ?_ _ | (simp; done) | (simp; omega))).after hb1
  have hC1 := (show IsBlk _ (w.heap.size + 1 + 1) 24 #[.int .u64 (wd c 0 : Nat), .int .u64 (wd c 1 : Nat), .int .u64 (wd c 2 : Nat), .int .u64 (wd c 3 : Nat)] from by repeat' (first | with_reducible assumption | with_reducible refine IsBlk.drewN ?_ _ | with_reducible refine IsBlk.drew ?_ | with_reducible refine IsBlk.newAt _ _ ?_ | with_reducible refine IsBlk.alloc ?_ _ | with_reducible refine IsBlk.far ?_ ?_ _ | (simp; done) | (simp; omega))).after hb1
  have B1 := (show Below w.heap.size w _ from by repeat' (first | exact Below.refl _ _ | refine bel_drewN ?_ _ | refine Below.drew ?_ | refine Below.alloc ?_ ?_ _ | refine Below.setCell ?_ ?_ _ | exact Nat.le_refl _ | (simp; done) | (simp; omega) | assumption)).trans (hb1.mono (by simp <;> omega))
  clear hb1
  have s0 := hBB1.cell 0
  have s1 := hBB1.cell 1
  have s2 := hBB1.cell 2
  have s3 := hBB1.cell 3
  simp at s0 s1 s2 s3
  have frs := hBB1.free
  have lb1 := hBB1.lt
  go_wp2_with fail
  refine (K2.out _).mono ?_
  rintro e w2 ⟨rfl, hb2⟩
  have hA2 := (laid_old hA1 S).after hb2
  have hBB2 := (laid_old hBB1 S).after hb2
  have hC2 := (laid_old hC1 S).after hb2
  have hS2 := (laid_new w1 S).after hb2
  have B2 := bel_on (bel_laid B1 S) hb2
  clear hb2 s0 s1 s2 s3 frs lb1 hA1 hBB1 hC1 B1
  have r0 := hA2.cell 0
  have r1 := hA2.cell 1
  have r2 := hA2.cell 2
  have r3 := hA2.cell 3
  simp at r0 r1 r2 r3
  have frr := hA2.free
  have s0 := hBB2.cell 0
  have s1 := hBB2.cell 1
  have s2 := hBB2.cell 2
  have s3 := hBB2.cell 3
  simp at s0 s1 s2 s3
  have frs := hBB2.free
  have la2 := hA2.lt
  have lb2 := hBB2.lt
  go_wp2_with fail
  refine (K3.out _).mono ?_
  rintro e w3 ⟨rfl, hb3⟩
  have hA3 := (laid_old hA2 a).after hb3
  have hBB3 := (laid_old hBB2 a).after hb3
  have hC3 := (laid_old hC2 a).after hb3
  have hS3 := (laid_old hS2 a).after hb3
  have hR3 := (laid_new w2 a).after hb3
  have B3 := bel_on (bel_laid B2 a) hb3
  clear hb3 s0 s1 s2 s3 frs la2 lb2 hA2 hBB2 hC2 hS2 B2 r0 r1 r2 r3 frr
  go_wp2_with fail
  refine wp_region_seq (S := fun w' => RB w' w.heap.size a ∧ RB w' (w.heap.size + 1) b ∧ RB w' (w.heap.size + 1 + 1) c ∧ RB w' w1.heap.size S ∧ RB w' w2.heap.size a ∧ RB w' w3.heap.size D ∧ Below w.heap.size w w') (by kernel_rfl) (by kernel_rfl)
    ⟨RB.of (hA3.alloc _).drew, RB.of (hBB3.alloc _).drew, RB.of (hC3.alloc _).drew, RB.of (hS3.alloc _).drew, RB.of (hR3.alloc _).drew, RB.of (IsBlk.new _ _ _).drew, (B3.alloc B3.size _).drew⟩ ?_
  have ST : ∀ w1' w2', (RB w1' w.heap.size a ∧ RB w1' (w.heap.size + 1) b ∧ RB w1' (w.heap.size + 1 + 1) c ∧ RB w1' w1.heap.size S ∧ RB w1' w2.heap.size a ∧ RB w1' w3.heap.size D ∧ Below w.heap.size w w1') → Below w1'.heap.size w1' w2' → (RB w2' w.heap.size a ∧ RB w2' (w.heap.size + 1) b ∧ RB w2' (w.heap.size + 1 + 1) c ∧ RB w2' w1.heap.size S ∧ RB w2' w2.heap.size a ∧ RB w2' w3.heap.size D ∧ Below w.heap.size w w2') :=
    fun _ _ h hb => ⟨h.1.later hb, h.2.1.later hb, h.2.2.1.later hb, h.2.2.2.1.later hb, h.2.2.2.2.1.later hb, h.2.2.2.2.2.1.later hb, bel_on h.2.2.2.2.2.2 hb⟩
  have HST := Lib.hid ST
  clear ST hA3 hBB3 hC3 hS3 hR3 B3
  generalize hgA : w.heap.size = gA at *
  have HG := Lib.hid hgA
  clear hgA
  repeat (first
    | (refine SeqS.skip ?_ ?_; rfl; (try simp only [Act.put, List.setIfInBounds_toArray, List.set_cons_zero, List.set_cons_succ]))
    | (refine SeqS.take (v := ?_) ?_ ?_ ?_; rotate_left; rfl; (intro w hS; simp only [RB] at hS; go_simp; with_reducible rfl); (try simp only [Act.put, List.setIfInBounds_toArray, List.set_cons_zero, List.set_cons_succ]))
    | (refine SeqS.call (v := ?_) (f := ?_) (args := ?_) ?_ ?_ ?_ ?_; rotate_left 3; rfl; (intro w hS; simp only [RB] at hS; go_simp; (first | with_reducible rfl | (refine ⟨?_, ?_⟩ <;> with_reducible rfl))); (intro w hS; first | ((with_reducible refine (K1.out _).mono ?_); rintro e w' ⟨rfl, hb⟩; refine ⟨?_, HST.out _ _ hS hb⟩; with_reducible rfl) | ((with_reducible refine (K4.out _).mono ?_); rintro e w' ⟨rfl, hb⟩; refine ⟨?_, HST.out _ _ hS hb⟩; with_reducible rfl) | ((with_reducible refine (K5.out _).mono ?_); rintro e w' ⟨rfl, hb⟩; refine ⟨?_, HST.out _ _ hS hb⟩; with_reducible rfl) | ((with_reducible refine (K6.out _).mono ?_); rintro e w' ⟨rfl, hb⟩; refine ⟨?_, HST.out _ _ hS hb⟩; with_reducible rfl) | ((with_reducible refine (K7.out _).mono ?_); rintro e w' ⟨rfl, hb⟩; refine ⟨?_, HST.out _ _ hS hb⟩; with_reducible rfl) | ((with_reducible refine (K8.out _).mono ?_); rintro e w' ⟨rfl, hb⟩; refine ⟨?_, HST.out _ _ hS hb⟩; with_reducible rfl) | ((with_reducible refine (K9.out _).mono ?_); rintro e w' ⟨rfl, hb⟩; refine ⟨?_, HST.out _ _ hS hb⟩; with_reducible rfl) | ((with_reducible refine (K10.out _).mono ?_); rintro e w' ⟨rfl, hb⟩; refine ⟨?_, HST.out _ _ hS hb⟩; with_reducible rfl) | ((with_reducible refine (K11.out _).mono ?_); rintro e w' ⟨rfl, hb⟩; refine ⟨?_, HST.out _ _ hS hb⟩; with_reducible rfl) | ((with_reducible refine (K12.out _).mono ?_); rintro e w' ⟨rfl, hb⟩; refine ⟨?_, HST.out _ _ hS hb⟩; with_reducible rfl) | ((with_reducible refine (K13.out _).mono ?_); rintro e w' ⟨rfl, hb⟩; refine ⟨?_, HST.out _ _ hS hb⟩; with_reducible rfl) | ((with_reducible refine (K14.out _).mono ?_); rintro e w' ⟨rfl, hb⟩; refine ⟨?_, HST.out _ _ hS hb⟩; with_reducible rfl) | ((with_reducible refine (K15.out _).mono ?_); rintro e w' ⟨rfl, hb⟩; refine ⟨?_, HST.out _ _ hS hb⟩; with_reducible rfl) | ((with_reducible refine (AW.out _).mono ?_); rintro e w' ⟨rfl, hb⟩; refine ⟨?_, HST.out _ _ hS hb⟩; with_reducible rfl)); (try simp only [Act.put, List.setIfInBounds_toArray, List.set_cons_zero, List.set_cons_succ])))
  refine SeqS.done ?_
  rintro wz ⟨_, _, _, _, _, _, hbz⟩
  go_wp2_with fail
  go_ret
  exact ⟨rfl, by rw [HG.out]; exact hbz⟩

theorem ring_walk (a b c : Nat) (w : World) (ha : a < w256) (hb : b < w256) (hc : c < w256) : Calls Try.prog 6 #[.agg #[.int .u64 (wd a 0 : Nat), .int .u64 (wd a 1 : Nat), .int .u64 (wd a 2 : Nat), .int .u64 (wd a 3 : Nat)], .agg #[.int .u64 (wd b 0 : Nat), .int .u64 (wd b 1 : Nat), .int .u64 (wd b 2 : Nat), .int .u64 (wd b 3 : Nat)], .agg #[.int .u64 (wd c 0 : Nat), .int .u64 (wd c 1 : Nat), .int .u64 (wd c 2 : Nat), .int .u64 (wd c 3 : Nat)]] w (BRet (.bool true) w) := by
  have hS := addN_lt a b
  have hU := addN_lt b c
  have hD := subN_lt a b
  have hN := notN_lt a
  refine ring_case a b c (addN a b) (addN (addN a b) c) (addN b c) (subN a b) (notN a) (notN 0) (cmpN a b) (cmpN b a) (subLess (addN a b) b) (subLess a b) (decide (a = b)) w
    (Lib.hid (sumW_any ha hb)) (Lib.hid fun w => ?_) (Lib.hid fun w => sub_any a b w ha hb) (Lib.hid fun w => ?_) (Lib.hid (sumW_any hS hc)) (Lib.hid (sumW_any hb hc)) (Lib.hid fun w => ?_) (Lib.hid fun w => ?_)
    (Lib.hid fun w => cmp_any a b w ha hb) (Lib.hid fun w => not_any a w ha) (Lib.hid fun w => ?_) (Lib.hid greatest_any) (Lib.hid fun w => cmp_any b a w hb ha) (Lib.hid (to_any a)) (Lib.hid fun w => ?_) (Lib.hid awake_any)
    ?_ (eqW_same _ _ _ _) (eqW_same _ _ _ _) (eqW_same _ _ _ _) (eqW_same _ _ _ _) (less_cmp a b).symm ?_ ?_
  · have := sub_any (addN a b) b w hS hb
    rwa [sub_add ha hb] at this
  · have := sumW_any hb ha w
    rwa [addN_comm b a] at this
  · have := sumW_any ha hU w
    rwa [← addN_assoc] at this
  · have := sumW_any hD hb w
    rwa [add_sub ha hb] at this
  · have := sumW_any ha hN w
    rwa [add_not ha] at this
  · have := from_any (byN a) (byN_lt a) (bytesV a) rfl (fun i hi => by simp [bytesV, hi]) w
    rwa [from_to ha] at this
  · intro w
    by_cases h : a = b
    · subst h
      rw [decide_eq_true rfl]
      exact eqW_same _ _ _ _ w
    · rw [decide_eq_false h]
      exact eqW_ne ha hb h w
  · have := cmp_zero a b
    rw [← this]
    exact Bool.eq_iff_iff.2 (by simp)
  · rw [cmp_neg b a, Int.neg_neg]
    refine IntWalk.i64_in _ ?_
    unfold cmpN
    repeat' split
    all_goals omega

theorem law_WideRing {H : Type} {enc : TypeId × Value → H} (W : World) (base : Nat) (v0 v1 v2 : Value) (d0 d1 d2 : DataW H) (p0 p1 p2 : List MemPlace)
    (h0 : DataW.Trod enc Try.prog W 0 (fun _ => true) true 24 v0 d0 p0) (h1 : DataW.Trod enc Try.prog W 0 (fun _ => true) true 24 v1 d1 p1) (h2 : DataW.Trod enc Try.prog W 0 (fun _ => true) true 24 v2 d2 p2)
    (o0 : Value.okWide Try.prog W .any base 24 v0) (o1 : Value.okWide Try.prog W .any base 24 v1) (o2 : Value.okWide Try.prog W .any base 24 v2) :
    Calls Try.prog 6 #[v0, v1, v2] W fun e w' => e = .returned (.bool true) ∧ Below W.heap.size W w' := by
  obtain ⟨zs, hl, rfl, hz⟩ := in_array Try.underlying24 Try.underlying22 (by kernel_rfl) (by kernel_rfl) h0 o0
  obtain ⟨ys, hl1, rfl, hy⟩ := in_array Try.underlying24 Try.underlying22 (by kernel_rfl) (by kernel_rfl) h1 o1
  obtain ⟨xs, hl2, rfl, hx⟩ := in_array Try.underlying24 Try.underlying22 (by kernel_rfl) (by kernel_rfl) h2 o2
  obtain ⟨a, ha, e⟩ := wide_of hl hz
  obtain ⟨b, hb, e1⟩ := wide_of hl1 hy
  obtain ⟨c, hc, e2⟩ := wide_of hl2 hx
  rw [e, e1, e2]
  exact ring_walk a b c W ha hb hc
end Go.Proofs.Ytncfgllcleidnaa
