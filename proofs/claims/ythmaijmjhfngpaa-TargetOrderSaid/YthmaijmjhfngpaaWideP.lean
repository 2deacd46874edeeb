/- The reference's sums, differences, Not, order and bytes of numbers of four words. -/
import Derived.Test.YthmaijmjhfngpaaWideO
import Derived.Test.YthmaijmjhfngpaaSeqT
namespace Go.Proofs.Ythmaijmjhfngpaa
open Go.RowKit

theorem RB.words {w : World} {g n : Nat} (h : RB w g n) : w.cell? ⟨g, 0, none⟩ = some (.int .u64 (wd n 0 : Nat)) ∧ w.cell? ⟨g, 1, none⟩ = some (.int .u64 (wd n 1 : Nat)) ∧ w.cell? ⟨g, 2, none⟩ = some (.int .u64 (wd n 2 : Nat)) ∧ w.cell? ⟨g, 3, none⟩ = some (.int .u64 (wd n 3 : Nat)) := h
/-- Four words have been stored. -/
theorem stored4 {w : World} {g : Nat} {c0 c1 c2 c3 v0 v1 v2 v3 : Value} (h : IsBlk w g 25 #[c0, c1, c2, c3]) : IsBlk ((((w.setCell ⟨g, 0, none⟩ v0).setCell ⟨g, 1, none⟩ v1).setCell ⟨g, 2, none⟩ v2).setCell ⟨g, 3, none⟩ v3) g 25 #[v0, v1, v2, v3] :=
  (((h.put 0 v0).put 1 v1).put 2 v2).put 3 v3
theorem far4 {w : World} {g g' : Nat} {t : TypeId} {cs : Array Value} {v0 v1 v2 v3 : Value} (h : IsBlk w g t cs) (hne : g ≠ g') : IsBlk ((((w.setCell ⟨g', 0, none⟩ v0).setCell ⟨g', 1, none⟩ v1).setCell ⟨g', 2, none⟩ v2).setCell ⟨g', 3, none⟩ v3) g t cs :=
  (((h.far hne v0).far hne v1).far hne v2).far hne v3
theorem bel4 {w0 w : World} {B g' : Nat} {v0 v1 v2 v3 : Value} (h : Below B w0 w) (hne : B ≤ g') : Below B w0 ((((w.setCell ⟨g', 0, none⟩ v0).setCell ⟨g', 1, none⟩ v1).setCell ⟨g', 2, none⟩ v2).setCell ⟨g', 3, none⟩ v3) :=
  (((h.setCell hne v0).setCell hne v1).setCell hne v2).setCell hne v3

set_option maxRecDepth 100000 in
set_option maxHeartbeats 4000000 in
theorem refAdd_any (a b : Nat) (w : World) (ha : a < w256) (hb : b < w256) :
    Calls Try.prog 39 #[.agg #[.int .u64 (wd a 0 : Nat), .int .u64 (wd a 1 : Nat), .int .u64 (wd a 2 : Nat), .int .u64 (wd a 3 : Nat)], .agg #[.int .u64 (wd b 0 : Nat), .int .u64 (wd b 1 : Nat), .int .u64 (wd b 2 : Nat), .int .u64 (wd b 3 : Nat)]] w (BRet (.tuple #[.agg #[.int .u64 (wd (addN a b) 0 : Nat), .int .u64 (wd (addN a b) 1 : Nat), .int .u64 (wd (addN a b) 2 : Nat), .int .u64 (wd (addN a b) 3 : Nat)], .bool (addOv a b)]) w) := by
  have C1 := Lib.hid (fun w => refSum_any a b false w ha hb)
  have e1 := addN_bits a b
  have e2 : (fun i => (a + b + false.toNat).testBit i) 256 = addOv a b := addOv_bits ha hb
  generalize (fun i => (a + b + false.toNat).testBit i) = f at *
  generalize addN a b = S at *
  generalize addOv a b = q at *
  have E1 := Lib.hid e1
  have E2 := Lib.hid e2
  clear e1 e2
  go_enter Try.func39, Try.ntmps39
  go_wp2_with fail
  refine (C1.out _).mono ?_
  rintro e w1 ⟨g, cs, rfl, hg, hsz, hf, hblk, hb1⟩
  have hR := (show IsBlk _ (w.heap.size + 1 + 1) 25 #[.int .u64 0, .int .u64 0, .int .u64 0, .int .u64 0] from by repeat' (first | with_reducible assumption | with_reducible refine IsBlk.drewN ?_ _ | with_reducible refine IsBlk.drew ?_ | with_reducible refine IsBlk.newAt _ _ ?_ | with_reducible refine IsBlk.alloc ?_ _ | with_reducible refine IsBlk.far ?_ ?_ _ | (simp; done) | (simp; omega))).after hb1
  have hB := (show Below w.heap.size w _ from by repeat' (first | exact Below.refl _ _ | refine bel_drewN ?_ _ | refine Below.drew ?_ | refine Below.alloc ?_ ?_ _ | refine Below.setCell ?_ ?_ _ | exact Nat.le_refl _ | (simp; done) | (simp; omega) | assumption)).trans (hb1.mono (by simp; omega))
  have hne : g ≠ w.heap.size + 1 + 1 := by simp at hg; omega
  clear hb1
  go_wp2_with fail
  refine wp_region_seqT (Once 5 (fun w' => IsBlk w' g 4 cs ∧ Below w.heap.size w w') (fun w' => IsBlk w' (w.heap.size + 1 + 1) 25 #[.int .u64 0, .int .u64 0, .int .u64 0, .int .u64 0]) (fun w' => IsBlk w' (w.heap.size + 1 + 1) 25 #[.int .u64 (wd S 0 : Nat), .int .u64 (wd S 1 : Nat), .int .u64 (wd S 2 : Nat), .int .u64 (wd S 3 : Nat)])) (by kernel_rfl) (by kernel_rfl)
    (Once.start ⟨hblk.drew, hB.drew⟩ hR.drew) ?_
  clear hblk hB hR
  have HF := Lib.hid hf
  have HZ := Lib.hid hsz
  have HO := Lib.hid (fun w' (h : IsBlk w' g 4 cs) => of_bits g 257 257 f w' (by omega) (by omega) h.lt (BitsRet.all h hf))
  rw [E1.out] at HO
  clear hf hsz
  repeat (first
    | (refine SeqT.skip ?_ ?_ ?_; decide; rfl; (try simp only [Act.put, List.setIfInBounds_toArray, List.set_cons_zero, List.set_cons_succ]))
    | (refine SeqT.take (v := ?_) ?_ ?_ ?_ ?_; rotate_left; decide; rfl; (intro w hS; have c := (hS.1.cell 256).trans (HF.out 256 (by omega)); go_simp; with_reducible rfl); (try simp only [Act.put, List.setIfInBounds_toArray, List.set_cons_zero, List.set_cons_succ]))
    | (refine SeqT.call (v := ?_) (f := ?_) (args := ?_) ?_ ?_ ?_ ?_ ?_; rotate_left 3; decide; rfl; (intro w hS; have c := (hS.1.cell 256).trans (HF.out 256 (by omega)); go_simp; (first | with_reducible rfl | (refine ⟨?_, ?_⟩ <;> with_reducible rfl))); (intro w hS; first | ((with_reducible refine (HO.out w hS.1).mono ?_); rintro e w' ⟨rfl, hb⟩; refine ⟨?_, ⟨hS.1.after hb, bel_on hS.2 hb⟩, fun h => h.after hb, fun h => h.after hb⟩; with_reducible rfl)); (try simp only [Act.put, List.setIfInBounds_toArray, List.set_cons_zero, List.set_cons_succ]))
    | (refine SeqT.store (w' := ?_) ?_ ?_ ?_ ?_; rotate_left 1; rfl; (intro w hS hR; have r0 := hR.cell 0; have r1 := hR.cell 1; have r2 := hR.cell 2; have r3 := hR.cell 3; simp at r0 r1 r2 r3; have fr := hR.free; have lt := hR.lt; go_simp; (first | with_reducible rfl | (refine ⟨?_, ?_⟩ <;> with_reducible rfl))); (intro w hS hR; exact ⟨⟨far4 hS.1 hne, bel4 hS.2 (by omega)⟩, stored4 hR⟩); (try simp only [Act.put, List.setIfInBounds_toArray, List.set_cons_zero, List.set_cons_succ])))
  refine SeqT.done (by decide) ?_
  rintro wz ⟨_, hbz⟩ hR1
  have r0 := hR1.cell 0
  have r1 := hR1.cell 1
  have r2 := hR1.cell 2
  have r3 := hR1.cell 3
  simp at r0 r1 r2 r3
  have frr := hR1.free
  have HBZ := Lib.hid hbz
  clear hbz hR1
  go_wp2_with fail
  exact bodyPost_ret (v := .tuple #[.agg #[.int .u64 (wd S 0 : Nat), .int .u64 (wd S 1 : Nat), .int .u64 (wd S 2 : Nat), .int .u64 (wd S 3 : Nat)], .bool q]) (by simp [results, Try.results39, go_sem, r0, r1, r2, r3, E2.out]) rfl ⟨rfl, HBZ.out⟩

/-- 256 bits of a rule, filled in. -/
theorem refNot_pl {a : Nat} (ha : a < w256) : ofBits (fun i => !bitI a (i : Int)) 256 = notN a := by
  refine ofBits_eq (notN_lt a) fun p hp => ?_
  rw [bitI_nat]
  have e : notN a = 2 ^ 256 - (a + 1) := by unfold notN; rw [show w256 = 2 ^ 256 from rfl]; omega
  rw [e, Nat.testBit_two_pow_sub_succ ha]
  simp [hp]

set_option maxRecDepth 100000 in
set_option maxHeartbeats 4000000 in
theorem refNot_any (a : Nat) (w : World) (ha : a < w256) : Calls Try.prog 41 #[.agg #[.int .u64 (wd a 0 : Nat), .int .u64 (wd a 1 : Nat), .int .u64 (wd a 2 : Nat), .int .u64 (wd a 3 : Nat)]] w (BRet (.agg #[.int .u64 (wd (notN a) 0 : Nat), .int .u64 (wd (notN a) 1 : Nat), .int .u64 (wd (notN a) 2 : Nat), .int .u64 (wd (notN a) 3 : Nat)]) w) := by
  have hmk : ∀ w : World, (Instr.makeSlice 77 (.int .i64 256) (.int .i64 256)).run Try.prog w = .ok (.slice (some ⟨w.heap.size, 0, none⟩) 256 256) (w.alloc (.cells (falses 256) 4)) := make_bools 256 (.inl rfl)
  have HF := Lib.hid (refNot_pl ha)
  generalize notN a = S at *
  go_enter Try.func41, Try.ntmps41
  go_wp2_with fail
  go_loopw [4] (fun i wr => ∃ (k : Nat) (cs : Array Value), k ≤ 256 ∧ i = .int .i64 k ∧ cs.size = 256 ∧ Fill (fun i => !bitI a (i : Int)) k cs ∧ IsBlk wr w.heap.size 25 #[.int .u64 (wd a 0 : Nat), .int .u64 (wd a 1 : Nat), .int .u64 (wd a 2 : Nat), .int .u64 (wd a 3 : Nat)] ∧
    IsBlk wr (w.heap.size + 1) 25 #[.int .u64 0, .int .u64 0, .int .u64 0, .int .u64 0] ∧ IsBlk wr (w.heap.size + 1 + 1) 4 cs ∧ Below w.heap.size w wr) (fun i _ => 256 - (intOf i).toNat)
  case atStart => exact ⟨0, falses 256, by omega, rfl, falses_size 256, fun i h => by omega, by repeat' (first | with_reducible assumption | with_reducible refine IsBlk.drewN ?_ _ | with_reducible refine IsBlk.drew ?_ | with_reducible refine IsBlk.newAt _ _ ?_ | with_reducible refine IsBlk.alloc ?_ _ | with_reducible refine IsBlk.far ?_ ?_ _ | (simp; done) | (simp; omega)), by repeat' (first | with_reducible assumption | with_reducible refine IsBlk.drewN ?_ _ | with_reducible refine IsBlk.drew ?_ | with_reducible refine IsBlk.newAt _ _ ?_ | with_reducible refine IsBlk.alloc ?_ _ | with_reducible refine IsBlk.far ?_ ?_ _ | (simp; done) | (simp; omega)), by repeat' (first | with_reducible assumption | with_reducible refine IsBlk.drewN ?_ _ | with_reducible refine IsBlk.drew ?_ | with_reducible refine IsBlk.newAt _ _ ?_ | with_reducible refine IsBlk.alloc ?_ _ | with_reducible refine IsBlk.far ?_ ?_ _ | (simp; done) | (simp; omega)), by repeat' (first | exact Below.refl _ _ | refine bel_drewN ?_ _ | refine Below.drew ?_ | refine Below.alloc ?_ ?_ _ | refine Below.setCell ?_ ?_ _ | exact Nat.le_refl _ | (simp; done) | (simp; omega) | assumption)⟩
  case round =>
    obtain ⟨k, cs, hk, rfl, hsz, hf, hA, hR, hO, hB⟩ := hrel
    have HA := Lib.hid hA
    have HR := Lib.hid hR
    have HO := Lib.hid hO
    have HB := Lib.hid hB
    have HX := Lib.hid hf
    have HZ := Lib.hid hsz
    by_cases hlt : k < 256
    · skip
      have c0 := hA.cell 0
      have c1 := hA.cell 1
      have c2 := hA.cell 2
      have c3 := hA.cell 3
      simp at c0 c1 c2 c3
      have frc := hA.free
      have hlt' : (k : Int) < 256 := by omega
      have hx : ∀ o, (wr.alloc o).cell? ⟨w.heap.size + 1 + 1, k, none⟩ = some (cs[k]'(by omega)) := fun o => by rw [(hO.alloc o).cell, Array.getElem?_eq_getElem]
      have hfr : ∀ o, (wr.alloc o).frozen? ⟨w.heap.size + 1 + 1, k, none⟩ = false := fun o => (hO.alloc o).free k
      generalize cs[k]'(by omega) = x at hx
      clear hA hR hO hB hf hsz frc
      go_wp2_with fail
      refine (bit_any _ _ _ ha).mono ?_
      rintro e w' ⟨rfl, rfl⟩
      go_wp2_with fail
      refine ⟨⟨k + 1, cs.setIfInBounds k (.bool (!bitI a (k : Int))), by omega, by go_num, by simpa using HZ.out, HX.out.next (by have := HZ.out; omega), ?_, ?_, (HO.out.alloc _).put _ _, ?_⟩, by simp [intOf]; omega⟩
      · exact (HA.out.alloc _).far (by simp; omega) _
      · exact (HR.out.alloc _).far (by simp) _
      · exact (HB.out.alloc (by have := HA.out.lt; omega) _).setCell (by simp; omega) _
    · obtain rfl : k = 256 := by omega
      have hcell : ∀ i, i < 256 → wr.cell? ⟨w.heap.size + 1 + 1, i, none⟩ = some (.bool (!bitI a (i : Int))) := fun i hi => by rw [hO.cell]; exact hf i hi
      have HC := Lib.hid hcell
      have HL := Lib.hid hO.lt
      clear hA hR hO hB hf hsz hcell hlt hk
      go_wp2_with fail
      refine (of_bits _ 256 256 (fun i => !bitI a (i : Int)) _ (by omega) (by omega) HL.out HC.out).mono ?_
      rintro e w2 ⟨rfl, hb2⟩
      rw [HF.out]
      have hR2 := HR.out.after hb2
      have r0 := hR2.cell 0
      have r1 := hR2.cell 1
      have r2 := hR2.cell 2
      have r3 := hR2.cell 3
      simp at r0 r1 r2 r3
      have frr := hR2.free
      have HR2 := Lib.hid hR2
      have HB2 := Lib.hid (HB.out.trans (hb2.mono HB.out.size))
      clear hR2 hb2
      go_wp2_with fail
      refine bodyPost_ret (v := (.agg #[.int .u64 (wd (S) 0 : Nat), .int .u64 (wd (S) 1 : Nat), .int .u64 (wd (S) 2 : Nat), .int .u64 (wd (S) 3 : Nat)])) ?_ rfl ⟨rfl, ?_⟩
      · have b0 := ((((HR2.out.put 0 (.int .u64 (wd (S) 0 : Nat))).put 1 (.int .u64 (wd (S) 1 : Nat))).put 2 (.int .u64 (wd (S) 2 : Nat))).put 3 (.int .u64 (wd (S) 3 : Nat)))
        have z0 := b0.cell 0
        have z1 := b0.cell 1
        have z2 := b0.cell 2
        have z3 := b0.cell 3
        simp at z0 z1 z2 z3
        simp [results, Try.results41, go_sem, z0, z1, z2, z3]
      · exact (((HB2.out.setCell (by first | (simp; done) | (simp; omega)) _).setCell (by first | (simp; done) | (simp; omega)) _).setCell (by first | (simp; done) | (simp; omega)) _).setCell (by first | (simp; done) | (simp; omega)) _

set_option maxRecDepth 100000 in
set_option maxHeartbeats 4000000 in
theorem refSub_any (a b : Nat) (w : World) (ha : a < w256) (hb : b < w256) :
    Calls Try.prog 56 #[.agg #[.int .u64 (wd a 0 : Nat), .int .u64 (wd a 1 : Nat), .int .u64 (wd a 2 : Nat), .int .u64 (wd a 3 : Nat)], .agg #[.int .u64 (wd b 0 : Nat), .int .u64 (wd b 1 : Nat), .int .u64 (wd b 2 : Nat), .int .u64 (wd b 3 : Nat)]] w (BRet (.tuple #[.agg #[.int .u64 (wd (subN a b) 0 : Nat), .int .u64 (wd (subN a b) 1 : Nat), .int .u64 (wd (subN a b) 2 : Nat), .int .u64 (wd (subN a b) 3 : Nat)], .bool (subLess a b)]) w) := by
  have C0 := Lib.hid (fun w => refNot_any b w hb)
  have C1 := Lib.hid (fun w => refSum_any a (notN b) true w ha (notN_lt b))
  have e1 := subN_bits ha hb
  have e2 : (!(fun i => (a + notN b + true.toNat).testBit i) 256) = subLess a b := subLess_bits ha hb
  generalize (fun i => (a + notN b + true.toNat).testBit i) = f at *
  generalize subN a b = S at *
  generalize subLess a b = q at *
  generalize notN b = N at *
  have E1 := Lib.hid e1
  have E2 := Lib.hid e2
  clear e1 e2
  go_enter Try.func56, Try.ntmps56
  go_wp2_with fail
  go_region_held3 (fun w' => w'.cell? ⟨w.heap.size, 0, none⟩ = some (.int .u64 (wd a 0 : Nat)) ∧ w'.cell? ⟨w.heap.size, 1, none⟩ = some (.int .u64 (wd a 1 : Nat)) ∧ w'.cell? ⟨w.heap.size, 2, none⟩ = some (.int .u64 (wd a 2 : Nat)) ∧ w'.cell? ⟨w.heap.size, 3, none⟩ = some (.int .u64 (wd a 3 : Nat)) ∧ w'.cell? ⟨w.heap.size + 1, 0, none⟩ = some (.int .u64 (wd b 0 : Nat)) ∧ w'.cell? ⟨w.heap.size + 1, 1, none⟩ = some (.int .u64 (wd b 1 : Nat)) ∧ w'.cell? ⟨w.heap.size + 1, 2, none⟩ = some (.int .u64 (wd b 2 : Nat)) ∧ w'.cell? ⟨w.heap.size + 1, 3, none⟩ = some (.int .u64 (wd b 3 : Nat))) (first | go_keep | (refine ⟨?_, ?_, ?_, ?_, ?_, ?_, ?_, ?_⟩ <;> (refine cell_later hbx ?_; go_keep)) | (refine ⟨?_, ?_, ?_, ?_, ?_, ?_, ?_, ?_⟩ <;> (refine cell_later hby ?_; go_keep))) (first | (go_at_call 41; refine (C0.out _).mono ?_; rintro e w4 ⟨rfl, hbx⟩) | (go_at_call 54; refine (C1.out _).mono ?_; rintro e w5 ⟨g, cs, rfl, hg, hsz, hf, hblk, hby⟩))
  have hR := ((show IsBlk _ (w.heap.size + 1 + 1) 25 #[.int .u64 0, .int .u64 0, .int .u64 0, .int .u64 0] from by repeat' (first | with_reducible assumption | with_reducible refine IsBlk.drewN ?_ _ | with_reducible refine IsBlk.drew ?_ | with_reducible refine IsBlk.newAt _ _ ?_ | with_reducible refine IsBlk.alloc ?_ _ | with_reducible refine IsBlk.far ?_ ?_ _ | (simp; done) | (simp; omega))).after hbx).after hby
  have hB := ((show Below w.heap.size w _ from by repeat' (first | exact Below.refl _ _ | refine bel_drewN ?_ _ | refine Below.drew ?_ | refine Below.alloc ?_ ?_ _ | refine Below.setCell ?_ ?_ _ | exact Nat.le_refl _ | (simp; done) | (simp; omega) | assumption)).trans (hbx.mono (by simp; omega))).trans (hby.mono (Nat.le_trans (by simp; omega) hbx.size))
  have hne : g ≠ w.heap.size + 1 + 1 := by have := hbx.size; simp at this; omega
  clear hbx hby
  go_wp2_with fail
  refine wp_region_seqT (Once 6 (fun w' => IsBlk w' g 4 cs ∧ Below w.heap.size w w') (fun w' => IsBlk w' (w.heap.size + 1 + 1) 25 #[.int .u64 0, .int .u64 0, .int .u64 0, .int .u64 0]) (fun w' => IsBlk w' (w.heap.size + 1 + 1) 25 #[.int .u64 (wd S 0 : Nat), .int .u64 (wd S 1 : Nat), .int .u64 (wd S 2 : Nat), .int .u64 (wd S 3 : Nat)])) (by kernel_rfl) (by kernel_rfl)
    (Once.start ⟨hblk.drew, hB.drew⟩ hR.drew) ?_
  clear hblk hB hR
  have HF := Lib.hid hf
  have HZ := Lib.hid hsz
  have HO := Lib.hid (fun w' (h : IsBlk w' g 4 cs) => of_bits g 257 257 f w' (by omega) (by omega) h.lt (BitsRet.all h hf))
  rw [E1.out] at HO
  clear hf hsz
  repeat (first
    | (refine SeqT.skip ?_ ?_ ?_; decide; rfl; (try simp only [Act.put, List.setIfInBounds_toArray, List.set_cons_zero, List.set_cons_succ]))
    | (refine SeqT.take (v := ?_) ?_ ?_ ?_ ?_; rotate_left; decide; rfl; (intro w hS; have c := (hS.1.cell 256).trans (HF.out 256 (by omega)); go_simp; with_reducible rfl); (try simp only [Act.put, List.setIfInBounds_toArray, List.set_cons_zero, List.set_cons_succ]))
    | (refine SeqT.call (v := ?_) (f := ?_) (args := ?_) ?_ ?_ ?_ ?_ ?_; rotate_left 3; decide; rfl; (intro w hS; have c := (hS.1.cell 256).trans (HF.out 256 (by omega)); go_simp; (first | with_reducible rfl | (refine ⟨?_, ?_⟩ <;> with_reducible rfl))); (intro w hS; first | ((with_reducible refine (HO.out w hS.1).mono ?_); rintro e w' ⟨rfl, hb⟩; refine ⟨?_, ⟨hS.1.after hb, bel_on hS.2 hb⟩, fun h => h.after hb, fun h => h.after hb⟩; with_reducible rfl)); (try simp only [Act.put, List.setIfInBounds_toArray, List.set_cons_zero, List.set_cons_succ]))
    | (refine SeqT.store (w' := ?_) ?_ ?_ ?_ ?_; rotate_left 1; rfl; (intro w hS hR; have r0 := hR.cell 0; have r1 := hR.cell 1; have r2 := hR.cell 2; have r3 := hR.cell 3; simp at r0 r1 r2 r3; have fr := hR.free; have lt := hR.lt; go_simp; (first | with_reducible rfl | (refine ⟨?_, ?_⟩ <;> with_reducible rfl))); (intro w hS hR; exact ⟨⟨far4 hS.1 hne, bel4 hS.2 (by omega)⟩, stored4 hR⟩); (try simp only [Act.put, List.setIfInBounds_toArray, List.set_cons_zero, List.set_cons_succ])))
  refine SeqT.done (by decide) ?_
  rintro wz ⟨_, hbz⟩ hR1
  have r0 := hR1.cell 0
  have r1 := hR1.cell 1
  have r2 := hR1.cell 2
  have r3 := hR1.cell 3
  simp at r0 r1 r2 r3
  have frr := hR1.free
  have HBZ := Lib.hid hbz
  clear hbz hR1
  go_wp2_with fail
  exact bodyPost_ret (v := .tuple #[.agg #[.int .u64 (wd S 0 : Nat), .int .u64 (wd S 1 : Nat), .int .u64 (wd S 2 : Nat), .int .u64 (wd S 3 : Nat)], .bool q]) (by simp [results, Try.results56, go_sem, r0, r1, r2, r3, E2.out]) rfl ⟨rfl, HBZ.out⟩
end Go.Proofs.Ythmaijmjhfngpaa
