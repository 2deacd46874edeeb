/- The program's functions on numbers of four words, continued: words, moves, bits. -/
import Derived.Test.YthmaijmjhfngpaaWideB
import Derived.Test.YthmaijmjhfngpaaWidePn
namespace Go.Proofs.Ythmaijmjhfngpaa
open Go.RowKit

set_option maxHeartbeats 1000000 in
theorem at_any (a : Nat) (j : Int) (w : World) : Calls Try.prog 50 #[.agg #[.int .u64 (wd a 0 : Nat), .int .u64 (wd a 1 : Nat), .int .u64 (wd a 2 : Nat), .int .u64 (wd a 3 : Nat)], .int .i64 j] w fun e w' => e = .returned (.int .u64 (atV a j : Nat)) ∧ w' = w.alloc (.cells #[.int .u64 (wd a 0 : Nat), .int .u64 (wd a 1 : Nat), .int .u64 (wd a 2 : Nat), .int .u64 (wd a 3 : Nat)] 25) := by
  by_cases h0 : j < 0
  · have e : atV a j = 0 := by unfold atV; rw [if_neg (by omega)]
    rw [e]
    go_enter Try.func50, Try.ntmps50
    go_wp2_with fail
    go_ret
    exact ⟨rfl, rfl⟩
  by_cases h4 : 4 ≤ j
  · have e : atV a j = 0 := by unfold atV; rw [if_neg (by omega)]
    rw [e]
    go_enter Try.func50, Try.ntmps50
    go_wp2_with fail
    go_ret
    exact ⟨rfl, rfl⟩
  have h : j = 0 ∨ j = 1 ∨ j = 2 ∨ j = 3 := by omega
  clear h0 h4
  rcases h with rfl | rfl | rfl | rfl
  all_goals
    go_enter Try.func50, Try.ntmps50
    go_wp2_with fail
    go_ret
    exact ⟨rfl, rfl⟩

theorem shift_bits (a : Nat) (ha : a < w256) (c W : Int) (R : Nat) (hc : c = 64 * W + R) (hR : R < 64) :
    bits .or .u64 (IntKind.u64.wrap (((atV a (-W) : Nat) : Int) * 2 ^ R)) (((atV a (-W - 1) : Nat) : Int) / 2 ^ (64 - R)) = ((wd (shiftN a c) 0 : Nat) : Int) ∧
    bits .or .u64 (IntKind.u64.wrap (((atV a (1 - W) : Nat) : Int) * 2 ^ R)) (((atV a (-W) : Nat) : Int) / 2 ^ (64 - R)) = ((wd (shiftN a c) 1 : Nat) : Int) ∧
    bits .or .u64 (IntKind.u64.wrap (((atV a (2 - W) : Nat) : Int) * 2 ^ R)) (((atV a (1 - W) : Nat) : Int) / 2 ^ (64 - R)) = ((wd (shiftN a c) 2 : Nat) : Int) ∧
    bits .or .u64 (IntKind.u64.wrap (((atV a (3 - W) : Nat) : Int) * 2 ^ R)) (((atV a (2 - W) : Nat) : Int) / 2 ^ (64 - R)) = ((wd (shiftN a c) 3 : Nat) : Int) := by
  have h0 := shift_word ha hc hR 0 (by omega)
  have h1 := shift_word ha hc hR 1 (by omega)
  have h2 := shift_word ha hc hR 2 (by omega)
  have h3 := shift_word ha hc hR 3 (by omega)
  rw [show ((0 : Nat) : Int) - W - 1 = -W - 1 from by omega, show ((0 : Nat) : Int) - W = -W from by omega] at h0
  rw [show ((1 : Nat) : Int) - W - 1 = -W from by omega, show ((1 : Nat) : Int) - W = 1 - W from by omega] at h1
  rw [show ((2 : Nat) : Int) - W - 1 = 1 - W from by omega, show ((2 : Nat) : Int) - W = 2 - W from by omega] at h2
  rw [show ((3 : Nat) : Int) - W - 1 = 2 - W from by omega, show ((3 : Nat) : Int) - W = 3 - W from by omega] at h3
  exact ⟨h0, h1, h2, h3⟩

/-- The words of a number, those from k on still 0. -/
def upTo (n k j : Nat) : Nat := if j < k then wd n j else 0

theorem upTo_zero (n j : Nat) : upTo n 0 j = 0 := rfl

theorem shift_end {w wr : World} {g S k : Nat} {t : TypeId} {A : Array Value} (o1 o2 : Obj) (hA : IsBlk wr g t A) (hO : IsBlk wr (g + 1) t #[.int .u64 (upTo S k 0 : Nat), .int .u64 (upTo S k 1 : Nat), .int .u64 (upTo S k 2 : Nat), .int .u64 (upTo S k 3 : Nat)]) (hB : Below g w wr) (hk : k < 4) :
    IsBlk (((wr.alloc o1).alloc o2).setCell ⟨g + 1, k, none⟩ (.int .u64 (wd S k : Nat))).drew g t A ∧
    IsBlk (((wr.alloc o1).alloc o2).setCell ⟨g + 1, k, none⟩ (.int .u64 (wd S k : Nat))).drew (g + 1) t #[.int .u64 (upTo S (k + 1) 0 : Nat), .int .u64 (upTo S (k + 1) 1 : Nat), .int .u64 (upTo S (k + 1) 2 : Nat), .int .u64 (upTo S (k + 1) 3 : Nat)] ∧
    Below g w (((wr.alloc o1).alloc o2).setCell ⟨g + 1, k, none⟩ (.int .u64 (wd S k : Nat))).drew := by
  have h1 := hA.lt
  refine ⟨(((hA.alloc o1).alloc o2).far (by simp) _).drew, ?_, (((hB.alloc (by omega) o1).alloc (by simp; omega) o2).setCell (by simp) _).drew⟩
  have h := ((hO.alloc o1).alloc o2).put k (.int .u64 (wd S k : Nat))
  have h4 : k = 0 ∨ k = 1 ∨ k = 2 ∨ k = 3 := by omega
  rcases h4 with rfl | rfl | rfl | rfl <;> exact h

set_option maxRecDepth 100000 in
set_option maxHeartbeats 4000000 in
theorem shift_walk (a : Nat) (by_ c W T Q : Int) (R : Nat) (w : World) (ha : a < w256) (hc : min (max by_ (-256)) 256 = c) (hq : c.tdiv 64 = Q) (hr : c.tmod 64 = T) (hT : (T = R ∧ Q = W) ∨ (T < 0 ∧ T = R - 64 ∧ Q = W + 1)) (hcc : c = 64 * W + R) (hW : -4 ≤ W) (hW2 : W ≤ 4) (hR : R < 64) :
    Calls Try.prog 30 #[.agg #[.int .u64 (wd a 0 : Nat), .int .u64 (wd a 1 : Nat), .int .u64 (wd a 2 : Nat), .int .u64 (wd a 3 : Nat)], .int .i64 by_] w (BRet (.agg #[.int .u64 (wd (shiftN a c) 0 : Nat), .int .u64 (wd (shiftN a c) 1 : Nat), .int .u64 (wd (shiftN a c) 2 : Nat), .int .u64 (wd (shiftN a c) 3 : Nat)]) w) := by
  obtain ⟨x0, x1, x2, x3⟩ := shift_bits a ha c W R hcc hR
  clear hcc
  generalize hS : shiftN a c = S at *
  clear hS
  have e0 : IntKind.i64.wrap (-W) = -W := IntWalk.i64_in _ (by omega)
  have e0' : IntKind.i64.wrap (-W - 1) = -W - 1 := IntWalk.i64_in _ (by omega)
  have e1 : IntKind.i64.wrap (1 - W) = 1 - W := IntWalk.i64_in _ (by omega)
  have e1' : IntKind.i64.wrap (1 - W - 1) = -W := by rw [IntWalk.i64_in _ (by omega)]; omega
  have e2 : IntKind.i64.wrap (2 - W) = 2 - W := IntWalk.i64_in _ (by omega)
  have e2' : IntKind.i64.wrap (2 - W - 1) = 1 - W := by rw [IntWalk.i64_in _ (by omega)]; omega
  have e3 : IntKind.i64.wrap (3 - W) = 3 - W := IntWalk.i64_in _ (by omega)
  have e3' : IntKind.i64.wrap (3 - W - 1) = 2 - W := by rw [IntWalk.i64_in _ (by omega)]; omega
  have er : IntKind.i64.wrap (64 - (R : Int)) = 64 - (R : Int) := IntWalk.i64_in _ (by omega)
  have er2 : (0 : Int) ≤ 64 - (R : Int) := by omega
  have er3 : (64 - (R : Int)).toNat = 64 - R := by omega
  rcases hT with ⟨rfl, rfl⟩ | ⟨ht, rfl, rfl⟩
  · skip
    go_enter Try.func30, Try.ntmps30
    go_wp2_with fail
    go_loopw [21] (fun i wr => ∃ k : Nat, k ≤ 4 ∧ i = .int .i64 k ∧ IsBlk wr w.heap.size 25 #[.int .u64 (wd a 0 : Nat), .int .u64 (wd a 1 : Nat), .int .u64 (wd a 2 : Nat), .int .u64 (wd a 3 : Nat)] ∧
      IsBlk wr (w.heap.size + 1) 25 #[.int .u64 (upTo S k 0 : Nat), .int .u64 (upTo S k 1 : Nat), .int .u64 (upTo S k 2 : Nat), .int .u64 (upTo S k 3 : Nat)] ∧ Below w.heap.size w wr) (fun i _ => 4 - (intOf i).toNat)
    case atStart =>
      refine ⟨0, by omega, rfl, by repeat' (first | with_reducible assumption | with_reducible refine IsBlk.drewN ?_ _ | with_reducible refine IsBlk.drew ?_ | with_reducible refine IsBlk.newAt _ _ ?_ | with_reducible refine IsBlk.alloc ?_ _ | with_reducible refine IsBlk.far ?_ ?_ _ | (simp; done) | (simp; omega)), ?_, by repeat' (first | exact Below.refl _ _ | refine bel_drewN ?_ _ | refine Below.drew ?_ | refine Below.alloc ?_ ?_ _ | refine Below.setCell ?_ ?_ _ | exact Nat.le_refl _ | (simp; done) | (simp; omega) | assumption)⟩
      rw [upTo_zero, upTo_zero, upTo_zero, upTo_zero]
      exact IsBlk.newAt _ _ (by simp)
    case round =>
      obtain ⟨k, hk, rfl, hA, hO, hB⟩ := hrel
      have h5 : k = 0 ∨ k = 1 ∨ k = 2 ∨ k = 3 ∨ k = 4 := by omega
      have c0 := hA.cell 0
      have c1 := hA.cell 1
      have c2 := hA.cell 2
      have c3 := hA.cell 3
      simp at c0 c1 c2 c3
      have HA := Lib.hid hA
      have HB := Lib.hid hB
      have o0 := hO.cell 0
      have o1 := hO.cell 1
      have o2 := hO.cell 2
      have o3 := hO.cell 3
      have fr := hO.free
      simp at o0 o1 o2 o3
      have hlt := hO.lt
      have s0 : ∀ o1 o2, ((wr.alloc o1).alloc o2).cell? ⟨w.heap.size + 1, 0, none⟩ = some (.int .u64 (upTo S k 0 : Nat)) := fun o1 o2 => by rw [((hO.alloc o1).alloc o2).cell]; rfl
      have s1 : ∀ o1 o2, ((wr.alloc o1).alloc o2).cell? ⟨w.heap.size + 1, 1, none⟩ = some (.int .u64 (upTo S k 1 : Nat)) := fun o1 o2 => by rw [((hO.alloc o1).alloc o2).cell]; rfl
      have s2 : ∀ o1 o2, ((wr.alloc o1).alloc o2).cell? ⟨w.heap.size + 1, 2, none⟩ = some (.int .u64 (upTo S k 2 : Nat)) := fun o1 o2 => by rw [((hO.alloc o1).alloc o2).cell]; rfl
      have s3 : ∀ o1 o2, ((wr.alloc o1).alloc o2).cell? ⟨w.heap.size + 1, 3, none⟩ = some (.int .u64 (upTo S k 3 : Nat)) := fun o1 o2 => by rw [((hO.alloc o1).alloc o2).cell]; rfl
      have sf : ∀ o1 o2 i, ((wr.alloc o1).alloc o2).frozen? ⟨w.heap.size + 1, i, none⟩ = false := fun o1 o2 i => ((hO.alloc o1).alloc o2).free i
      have HO := Lib.hid hO
      clear hA hB hO
      rcases h5 with rfl | rfl | rfl | rfl | rfl
      · go_wp2_with fail
        go_region_held3 (fun w' => w'.cell? ⟨w.heap.size, 0, none⟩ = some (.int .u64 (wd a 0 : Nat)) ∧ w'.cell? ⟨w.heap.size, 1, none⟩ = some (.int .u64 (wd a 1 : Nat)) ∧ w'.cell? ⟨w.heap.size, 2, none⟩ = some (.int .u64 (wd a 2 : Nat)) ∧ w'.cell? ⟨w.heap.size, 3, none⟩ = some (.int .u64 (wd a 3 : Nat))) (go_keep) ((go_at_call 50; refine (at_any _ _ _).mono ?_; rintro e w' ⟨rfl, rfl⟩))
        rename_i hHeld
        clear hHeld
        go_wp2_with fail
        exact ⟨⟨1, by omega, rfl, shift_end _ _ HA.out HO.out HB.out (by omega)⟩, by simp [intOf]⟩
      · go_wp2_with fail
        go_region_held3 (fun w' => w'.cell? ⟨w.heap.size, 0, none⟩ = some (.int .u64 (wd a 0 : Nat)) ∧ w'.cell? ⟨w.heap.size, 1, none⟩ = some (.int .u64 (wd a 1 : Nat)) ∧ w'.cell? ⟨w.heap.size, 2, none⟩ = some (.int .u64 (wd a 2 : Nat)) ∧ w'.cell? ⟨w.heap.size, 3, none⟩ = some (.int .u64 (wd a 3 : Nat))) (go_keep) ((go_at_call 50; refine (at_any _ _ _).mono ?_; rintro e w' ⟨rfl, rfl⟩))
        rename_i hHeld
        clear hHeld
        go_wp2_with fail
        exact ⟨⟨2, by omega, rfl, shift_end _ _ HA.out HO.out HB.out (by omega)⟩, by simp [intOf]⟩
      · go_wp2_with fail
        go_region_held3 (fun w' => w'.cell? ⟨w.heap.size, 0, none⟩ = some (.int .u64 (wd a 0 : Nat)) ∧ w'.cell? ⟨w.heap.size, 1, none⟩ = some (.int .u64 (wd a 1 : Nat)) ∧ w'.cell? ⟨w.heap.size, 2, none⟩ = some (.int .u64 (wd a 2 : Nat)) ∧ w'.cell? ⟨w.heap.size, 3, none⟩ = some (.int .u64 (wd a 3 : Nat))) (go_keep) ((go_at_call 50; refine (at_any _ _ _).mono ?_; rintro e w' ⟨rfl, rfl⟩))
        rename_i hHeld
        clear hHeld
        go_wp2_with fail
        exact ⟨⟨3, by omega, rfl, shift_end _ _ HA.out HO.out HB.out (by omega)⟩, by simp [intOf]⟩
      · go_wp2_with fail
        go_region_held3 (fun w' => w'.cell? ⟨w.heap.size, 0, none⟩ = some (.int .u64 (wd a 0 : Nat)) ∧ w'.cell? ⟨w.heap.size, 1, none⟩ = some (.int .u64 (wd a 1 : Nat)) ∧ w'.cell? ⟨w.heap.size, 2, none⟩ = some (.int .u64 (wd a 2 : Nat)) ∧ w'.cell? ⟨w.heap.size, 3, none⟩ = some (.int .u64 (wd a 3 : Nat))) (go_keep) ((go_at_call 50; refine (at_any _ _ _).mono ?_; rintro e w' ⟨rfl, rfl⟩))
        rename_i hHeld
        clear hHeld
        go_wp2_with fail
        exact ⟨⟨4, by omega, rfl, shift_end _ _ HA.out HO.out HB.out (by omega)⟩, by simp [intOf]⟩
      · have o0' : wr.cell? ⟨w.heap.size + 1, 0, none⟩ = some (.int .u64 (wd S 0 : Nat)) := o0
        have o1' : wr.cell? ⟨w.heap.size + 1, 1, none⟩ = some (.int .u64 (wd S 1 : Nat)) := o1
        have o2' : wr.cell? ⟨w.heap.size + 1, 2, none⟩ = some (.int .u64 (wd S 2 : Nat)) := o2
        have o3' : wr.cell? ⟨w.heap.size + 1, 3, none⟩ = some (.int .u64 (wd S 3 : Nat)) := o3
        clear o0 o1 o2 o3 s0 s1 s2 s3
        go_wp2_with fail
        refine bodyPost_ret (v := .agg #[.int .u64 (wd S 0 : Nat), .int .u64 (wd S 1 : Nat), .int .u64 (wd S 2 : Nat), .int .u64 (wd S 3 : Nat)]) ?_ rfl ⟨rfl, ?_⟩
        · have b0 := ((((HO.out.put 0 (.int .u64 (wd S 0 : Nat))).put 1 (.int .u64 (wd S 1 : Nat))).put 2 (.int .u64 (wd S 2 : Nat))).put 3 (.int .u64 (wd S 3 : Nat)))
          have z0 := b0.cell 0
          have z1 := b0.cell 1
          have z2 := b0.cell 2
          have z3 := b0.cell 3
          simp at z0 z1 z2 z3
          simp [results, Try.results30, go_sem, z0, z1, z2, z3]
        · exact (((HB.out.setCell (by simp) _).setCell (by simp) _).setCell (by simp) _).setCell (by simp) _
  · skip
    go_enter Try.func30, Try.ntmps30
    go_wp2_with fail
    go_loopw [21] (fun i wr => ∃ k : Nat, k ≤ 4 ∧ i = .int .i64 k ∧ IsBlk wr w.heap.size 25 #[.int .u64 (wd a 0 : Nat), .int .u64 (wd a 1 : Nat), .int .u64 (wd a 2 : Nat), .int .u64 (wd a 3 : Nat)] ∧
      IsBlk wr (w.heap.size + 1) 25 #[.int .u64 (upTo S k 0 : Nat), .int .u64 (upTo S k 1 : Nat), .int .u64 (upTo S k 2 : Nat), .int .u64 (upTo S k 3 : Nat)] ∧ Below w.heap.size w wr) (fun i _ => 4 - (intOf i).toNat)
    case atStart =>
      refine ⟨0, by omega, rfl, by repeat' (first | with_reducible assumption | with_reducible refine IsBlk.drewN ?_ _ | with_reducible refine IsBlk.drew ?_ | with_reducible refine IsBlk.newAt _ _ ?_ | with_reducible refine IsBlk.alloc ?_ _ | with_reducible refine IsBlk.far ?_ ?_ _ | (simp; done) | (simp; omega)), ?_, by repeat' (first | exact Below.refl _ _ | refine bel_drewN ?_ _ | refine Below.drew ?_ | refine Below.alloc ?_ ?_ _ | refine Below.setCell ?_ ?_ _ | exact Nat.le_refl _ | (simp; done) | (simp; omega) | assumption)⟩
      rw [upTo_zero, upTo_zero, upTo_zero, upTo_zero]
      exact IsBlk.newAt _ _ (by simp)
    case round =>
      obtain ⟨k, hk, rfl, hA, hO, hB⟩ := hrel
      have h5 : k = 0 ∨ k = 1 ∨ k = 2 ∨ k = 3 ∨ k = 4 := by omega
      have c0 := hA.cell 0
      have c1 := hA.cell 1
      have c2 := hA.cell 2
      have c3 := hA.cell 3
      simp at c0 c1 c2 c3
      have HA := Lib.hid hA
      have HB := Lib.hid hB
      have o0 := hO.cell 0
      have o1 := hO.cell 1
      have o2 := hO.cell 2
      have o3 := hO.cell 3
      have fr := hO.free
      simp at o0 o1 o2 o3
      have hlt := hO.lt
      have s0 : ∀ o1 o2, ((wr.alloc o1).alloc o2).cell? ⟨w.heap.size + 1, 0, none⟩ = some (.int .u64 (upTo S k 0 : Nat)) := fun o1 o2 => by rw [((hO.alloc o1).alloc o2).cell]; rfl
      have s1 : ∀ o1 o2, ((wr.alloc o1).alloc o2).cell? ⟨w.heap.size + 1, 1, none⟩ = some (.int .u64 (upTo S k 1 : Nat)) := fun o1 o2 => by rw [((hO.alloc o1).alloc o2).cell]; rfl
      have s2 : ∀ o1 o2, ((wr.alloc o1).alloc o2).cell? ⟨w.heap.size + 1, 2, none⟩ = some (.int .u64 (upTo S k 2 : Nat)) := fun o1 o2 => by rw [((hO.alloc o1).alloc o2).cell]; rfl
      have s3 : ∀ o1 o2, ((wr.alloc o1).alloc o2).cell? ⟨w.heap.size + 1, 3, none⟩ = some (.int .u64 (upTo S k 3 : Nat)) := fun o1 o2 => by rw [((hO.alloc o1).alloc o2).cell]; rfl
      have sf : ∀ o1 o2 i, ((wr.alloc o1).alloc o2).frozen? ⟨w.heap.size + 1, i, none⟩ = false := fun o1 o2 i => ((hO.alloc o1).alloc o2).free i
      have HO := Lib.hid hO
      clear hA hB hO
      rcases h5 with rfl | rfl | rfl | rfl | rfl
      · go_wp2_with fail
        go_region_held3 (fun w' => w'.cell? ⟨w.heap.size, 0, none⟩ = some (.int .u64 (wd a 0 : Nat)) ∧ w'.cell? ⟨w.heap.size, 1, none⟩ = some (.int .u64 (wd a 1 : Nat)) ∧ w'.cell? ⟨w.heap.size, 2, none⟩ = some (.int .u64 (wd a 2 : Nat)) ∧ w'.cell? ⟨w.heap.size, 3, none⟩ = some (.int .u64 (wd a 3 : Nat))) (go_keep) ((go_at_call 50; refine (at_any _ _ _).mono ?_; rintro e w' ⟨rfl, rfl⟩))
        rename_i hHeld
        clear hHeld
        go_wp2_with fail
        exact ⟨⟨1, by omega, rfl, shift_end _ _ HA.out HO.out HB.out (by omega)⟩, by simp [intOf]⟩
      · go_wp2_with fail
        go_region_held3 (fun w' => w'.cell? ⟨w.heap.size, 0, none⟩ = some (.int .u64 (wd a 0 : Nat)) ∧ w'.cell? ⟨w.heap.size, 1, none⟩ = some (.int .u64 (wd a 1 : Nat)) ∧ w'.cell? ⟨w.heap.size, 2, none⟩ = some (.int .u64 (wd a 2 : Nat)) ∧ w'.cell? ⟨w.heap.size, 3, none⟩ = some (.int .u64 (wd a 3 : Nat))) (go_keep) ((go_at_call 50; refine (at_any _ _ _).mono ?_; rintro e w' ⟨rfl, rfl⟩))
        rename_i hHeld
        clear hHeld
        go_wp2_with fail
        exact ⟨⟨2, by omega, rfl, shift_end _ _ HA.out HO.out HB.out (by omega)⟩, by simp [intOf]⟩
      · go_wp2_with fail
        go_region_held3 (fun w' => w'.cell? ⟨w.heap.size, 0, none⟩ = some (.int .u64 (wd a 0 : Nat)) ∧ w'.cell? ⟨w.heap.size, 1, none⟩ = some (.int .u64 (wd a 1 : Nat)) ∧ w'.cell? ⟨w.heap.size, 2, none⟩ = some (.int .u64 (wd a 2 : Nat)) ∧ w'.cell? ⟨w.heap.size, 3, none⟩ = some (.int .u64 (wd a 3 : Nat))) (go_keep) ((go_at_call 50; refine (at_any _ _ _).mono ?_; rintro e w' ⟨rfl, rfl⟩))
        rename_i hHeld
        clear hHeld
        go_wp2_with fail
        exact ⟨⟨3, by omega, rfl, shift_end _ _ HA.out HO.out HB.out (by omega)⟩, by simp [intOf]⟩
      · go_wp2_with fail
        go_region_held3 (fun w' => w'.cell? ⟨w.heap.size, 0, none⟩ = some (.int .u64 (wd a 0 : Nat)) ∧ w'.cell? ⟨w.heap.size, 1, none⟩ = some (.int .u64 (wd a 1 : Nat)) ∧ w'.cell? ⟨w.heap.size, 2, none⟩ = some (.int .u64 (wd a 2 : Nat)) ∧ w'.cell? ⟨w.heap.size, 3, none⟩ = some (.int .u64 (wd a 3 : Nat))) (go_keep) ((go_at_call 50; refine (at_any _ _ _).mono ?_; rintro e w' ⟨rfl, rfl⟩))
        rename_i hHeld
        clear hHeld
        go_wp2_with fail
        exact ⟨⟨4, by omega, rfl, shift_end _ _ HA.out HO.out HB.out (by omega)⟩, by simp [intOf]⟩
      · have o0' : wr.cell? ⟨w.heap.size + 1, 0, none⟩ = some (.int .u64 (wd S 0 : Nat)) := o0
        have o1' : wr.cell? ⟨w.heap.size + 1, 1, none⟩ = some (.int .u64 (wd S 1 : Nat)) := o1
        have o2' : wr.cell? ⟨w.heap.size + 1, 2, none⟩ = some (.int .u64 (wd S 2 : Nat)) := o2
        have o3' : wr.cell? ⟨w.heap.size + 1, 3, none⟩ = some (.int .u64 (wd S 3 : Nat)) := o3
        clear o0 o1 o2 o3 s0 s1 s2 s3
        go_wp2_with fail
        refine bodyPost_ret (v := .agg #[.int .u64 (wd S 0 : Nat), .int .u64 (wd S 1 : Nat), .int .u64 (wd S 2 : Nat), .int .u64 (wd S 3 : Nat)]) ?_ rfl ⟨rfl, ?_⟩
        · have b0 := ((((HO.out.put 0 (.int .u64 (wd S 0 : Nat))).put 1 (.int .u64 (wd S 1 : Nat))).put 2 (.int .u64 (wd S 2 : Nat))).put 3 (.int .u64 (wd S 3 : Nat)))
          have z0 := b0.cell 0
          have z1 := b0.cell 1
          have z2 := b0.cell 2
          have z3 := b0.cell 3
          simp at z0 z1 z2 z3
          simp [results, Try.results30, go_sem, z0, z1, z2, z3]
        · exact (((HB.out.setCell (by simp) _).setCell (by simp) _).setCell (by simp) _).setCell (by simp) _

theorem shift_any (a : Nat) (by_ : Int) (w : World) (ha : a < w256) : Calls Try.prog 30 #[.agg #[.int .u64 (wd a 0 : Nat), .int .u64 (wd a 1 : Nat), .int .u64 (wd a 2 : Nat), .int .u64 (wd a 3 : Nat)], .int .i64 by_] w (BRet (.agg #[.int .u64 (wd (shiftN a (min (max by_ (-256)) 256)) 0 : Nat), .int .u64 (wd (shiftN a (min (max by_ (-256)) 256)) 1 : Nat), .int .u64 (wd (shiftN a (min (max by_ (-256)) 256)) 2 : Nat), .int .u64 (wd (shiftN a (min (max by_ (-256)) 256)) 3 : Nat)]) w) := by
  have h1 : -256 ≤ min (max by_ (-256)) 256 := by omega
  have h2 : min (max by_ (-256)) 256 ≤ 256 := by omega
  generalize hc : min (max by_ (-256)) 256 = c at *
  have hd := Int.mul_tdiv_add_tmod c 64
  by_cases hp : 0 ≤ c
  · have e1 : c.tdiv 64 = c / 64 := Int.tdiv_eq_ediv_of_nonneg hp
    have e2 : c.tmod 64 = c % 64 := Int.tmod_eq_emod_of_nonneg hp
    exact shift_walk a by_ c (c / 64) (c % 64) (c / 64) (c % 64).toNat w ha hc e1 e2 (.inl ⟨by omega, rfl⟩) (by omega) (by omega) (by omega) (by omega)
  · have m1 : -64 < c.tmod 64 := by
      have := Int.neg_tmod c 64
      have h3 := Int.tmod_lt_of_pos (-c) (b := 64) (by omega)
      omega
    have m2 : c.tmod 64 ≤ 0 := by
      have := Int.neg_tmod c 64
      have h3 := Int.tmod_nonneg (a := -c) 64 (by omega)
      omega
    by_cases hz : c.tmod 64 = 0
    · exact shift_walk a by_ c (c.tdiv 64) 0 (c.tdiv 64) 0 w ha hc rfl hz (.inl ⟨rfl, rfl⟩) (by omega) (by omega) (by omega) (by omega)
    · exact shift_walk a by_ c (c.tdiv 64 - 1) (c.tmod 64) (c.tdiv 64) (c.tmod 64 + 64).toNat w ha hc rfl rfl (.inr ⟨by omega, by omega, by omega⟩) (by omega) (by omega) (by omega) (by omega)

/-- What is moved further than 256 places is gone. -/
theorem shiftN_clamp {a : Nat} (ha : a < w256) (c : Int) : shiftN a (min (max c (-256)) 256) = shiftN a c := by
  apply Nat.eq_of_testBit_eq
  intro p
  rw [shiftN_bit ha, shiftN_bit ha]
  by_cases hp : p < 256
  · simp only [hp, decide_true, Bool.true_and]
    by_cases h1 : c < -256
    · rw [show min (max c (-256)) 256 = -256 from by omega]
      rw [show (p : Int) - -256 = ((p + 256 : Nat) : Int) from by omega, bitI_nat, bit_beyond ha (by omega)]
      obtain ⟨k, hk⟩ := Int.eq_ofNat_of_zero_le (show 0 ≤ (p : Int) - c by omega)
      rw [hk, bitI_nat, bit_beyond ha (by omega)]
    · by_cases h2 : 256 < c
      · rw [show min (max c (-256)) 256 = 256 from by omega, bitI_neg a (by omega), bitI_neg a (by omega)]
      · rw [show min (max c (-256)) 256 = c from by omega]
  · simp [hp]

/-! ### How many bits -/
set_option maxRecDepth 100000 in
set_option maxHeartbeats 2000000 in
theorem bits_any (a : Nat) (w : World) (ha : a < w256) : Calls Try.prog 20 #[.agg #[.int .u64 (wd a 0 : Nat), .int .u64 (wd a 1 : Nat), .int .u64 (wd a 2 : Nat), .int .u64 (wd a 3 : Nat)]] w (BRet (.int .i64 (bitsN a : Nat)) w) := by
  obtain ⟨c3, c2, c1, c0⟩ := bits_hi ha
  have hl := fun i => bitLen_bitsN (x := wd a i) (by have := wd_lt a i; rw [two64]; exact this)
  have hle := fun i => bitsN_le (x := wd a i) (k := 64) (by have := wd_lt a i; rw [two64]; exact this)
  have L := Lib.hid (show ∀ i w, Calls Try.prog 43 #[.int .u64 (wd a i : Nat)] w fun e w' => e = .returned (.int .i64 (bitsN (wd a i) : Nat)) ∧ w = w' from fun i w => (Try.bits_Len64 _ w (wd_bd a i).1 (wd_bd a i).2).mono fun _ _ ⟨h1, h2⟩ => ⟨by rw [h1, Int.toNat_natCast, hl], h2.symm⟩)
  have N := fun i => (show (wd a i ≠ 0 → (((wd a i : Nat) : Int) != 0) = true) from fun h => by simp; omega)
  have E := fun i => (show (wd a i = 0 → (((wd a i : Nat) : Int) != 0) = false) from fun h => by simp [h])
  by_cases h3 : wd a 3 = 0
  · by_cases h2 : wd a 2 = 0
    · by_cases h1 : wd a 1 = 0
      · by_cases h0 : wd a 0 = 0
        · have t3 := E 3 h3; have t2 := E 2 h2; have t1 := E 1 h1; have t0 := E 0 h0
          rw [c0 h3 h2 h1, h0, bitsN_zero]
          clear c3 c2 c1 c0 N E h3 h2 h1 h0 hl hle
          go_enter Try.func20, Try.ntmps20
          go_wp2_with fail
          refine wp_loop_rounds 5 ?_
          rw [rounds_succ]
          go_wp2_with fail
          skip
          rw [rounds_succ]
          go_wp2_with fail
          skip
          rw [rounds_succ]
          go_wp2_with fail
          skip
          rw [rounds_succ]
          go_wp2_with fail
          skip
          rw [rounds_succ]
          go_wp2_with fail
          go_ret
          exact ⟨rfl, by repeat' (first | exact Below.refl _ _ | refine bel_drewN ?_ _ | refine Below.drew ?_ | refine Below.alloc ?_ ?_ _ | refine Below.setCell ?_ ?_ _ | exact Nat.le_refl _ | (simp; done) | (simp; omega) | assumption)⟩
        · have t3 := E 3 h3; have t2 := E 2 h2; have t1 := E 1 h1; have t0 := N 0 h0
          rw [c0 h3 h2 h1]
          have b := hle 0
          clear c3 c2 c1 c0 N E h3 h2 h1 h0 hl hle
          go_enter Try.func20, Try.ntmps20
          go_wp2_with fail
          refine wp_loop_rounds 4 ?_
          rw [rounds_succ]
          go_wp2_with fail
          skip
          rw [rounds_succ]
          go_wp2_with fail
          skip
          rw [rounds_succ]
          go_wp2_with fail
          skip
          rw [rounds_succ]
          go_wp2_with fail
          refine (L.out _ _).mono ?_
          rintro e w' ⟨rfl, rfl⟩
          go_wp2_with fail
          go_ret
          exact ⟨rfl, by repeat' (first | exact Below.refl _ _ | refine bel_drewN ?_ _ | refine Below.drew ?_ | refine Below.alloc ?_ ?_ _ | refine Below.setCell ?_ ?_ _ | exact Nat.le_refl _ | (simp; done) | (simp; omega) | assumption)⟩
      · have t3 := E 3 h3; have t2 := E 2 h2; have t1 := N 1 h1
        rw [c1 h3 h2 h1]
        have b := hle 1
        have B := Lib.hid (show ((64 + bitsN (wd a 1) : Nat) : Int) = 64 + (bitsN (wd a 1) : Nat) from by omega)
        clear c3 c2 c1 c0 N E h3 h2 h1 hl hle
        go_enter Try.func20, Try.ntmps20
        go_wp2_with fail
        refine wp_loop_rounds 3 ?_
        rw [rounds_succ]
        go_wp2_with fail
        skip
        rw [rounds_succ]
        go_wp2_with fail
        skip
        rw [rounds_succ]
        go_wp2_with fail
        refine (L.out _ _).mono ?_
        rintro e w' ⟨rfl, rfl⟩
        go_wp2_with fail
        go_ret
        exact ⟨by rw [B.out]; rfl, by repeat' (first | exact Below.refl _ _ | refine bel_drewN ?_ _ | refine Below.drew ?_ | refine Below.alloc ?_ ?_ _ | refine Below.setCell ?_ ?_ _ | exact Nat.le_refl _ | (simp; done) | (simp; omega) | assumption)⟩
    · have t3 := E 3 h3; have t2 := N 2 h2
      rw [c2 h3 h2]
      have b := hle 2
      have B := Lib.hid (show ((128 + bitsN (wd a 2) : Nat) : Int) = 128 + (bitsN (wd a 2) : Nat) from by omega)
      clear c3 c2 c1 c0 N E h3 h2 hl hle
      go_enter Try.func20, Try.ntmps20
      go_wp2_with fail
      refine wp_loop_rounds 2 ?_
      rw [rounds_succ]
      go_wp2_with fail
      skip
      rw [rounds_succ]
      go_wp2_with fail
      refine (L.out _ _).mono ?_
      rintro e w' ⟨rfl, rfl⟩
      go_wp2_with fail
      go_ret
      exact ⟨by rw [B.out]; rfl, by repeat' (first | exact Below.refl _ _ | refine bel_drewN ?_ _ | refine Below.drew ?_ | refine Below.alloc ?_ ?_ _ | refine Below.setCell ?_ ?_ _ | exact Nat.le_refl _ | (simp; done) | (simp; omega) | assumption)⟩
  · have t3 := N 3 h3
    rw [c3 h3]
    have b := hle 3
    have B := Lib.hid (show ((192 + bitsN (wd a 3) : Nat) : Int) = 192 + (bitsN (wd a 3) : Nat) from by omega)
    clear c3 c2 c1 c0 N E h3 hl hle
    go_enter Try.func20, Try.ntmps20
    go_wp2_with fail
    refine wp_loop_rounds 1 ?_
    rw [rounds_succ]
    go_wp2_with fail
    refine (L.out _ _).mono ?_
    rintro e w' ⟨rfl, rfl⟩
    go_wp2_with fail
    go_ret
    exact ⟨by rw [B.out]; rfl, by repeat' (first | exact Below.refl _ _ | refine bel_drewN ?_ _ | refine Below.drew ?_ | refine Below.alloc ?_ ?_ _ | refine Below.setCell ?_ ?_ _ | exact Nat.le_refl _ | (simp; done) | (simp; omega) | assumption)⟩
end Go.Proofs.Ythmaijmjhfngpaa
