/- The reference's quotients. -/
import Derived.Test.YthmaijmjhfngpaaWideY
namespace Go.Proofs.Ythmaijmjhfngpaa
open Go.RowKit

theorem top_bit {r : Nat} (hr : r < w256) : bitI r 255 = decide (2 ^ 255 ≤ r) := by
  rw [show (255 : Int) = ((255 : Nat) : Int) from rfl, bitI_nat, Nat.testBit_eq_decide_div_mod_eq]
  rw [show (2 : Nat) ^ 255 = 57896044618658097711785492504343953926634992332820282019728792003956564819968 from by decide]
  rw [w256_eq] at hr
  congr 1
  apply propext
  omega
/-- What stands inside a round of the reference's. -/
def RefIn (g a b x r : Nat) (w0 wr : World) : Prop :=
  IsBlk wr g 25 #[.int .u64 (wd a 0 : Nat), .int .u64 (wd a 1 : Nat), .int .u64 (wd a 2 : Nat), .int .u64 (wd a 3 : Nat)] ∧
  IsBlk wr (g + 1) 25 #[.int .u64 (wd b 0 : Nat), .int .u64 (wd b 1 : Nat), .int .u64 (wd b 2 : Nat), .int .u64 (wd b 3 : Nat)] ∧
  IsBlk wr (g + 1 + 1) 25 #[.int .u64 0, .int .u64 0, .int .u64 0, .int .u64 0] ∧
  IsBlk wr (g + 1 + 1 + 1) 25 #[.int .u64 0, .int .u64 0, .int .u64 0, .int .u64 0] ∧
  IsBlk wr (g + 1 + 1 + 1 + 1) 25 #[.int .u64 (wd x 0 : Nat), .int .u64 (wd x 1 : Nat), .int .u64 (wd x 2 : Nat), .int .u64 (wd x 3 : Nat)] ∧
  IsBlk wr (g + 1 + 1 + 1 + 1 + 1) 25 #[.int .u64 (wd r 0 : Nat), .int .u64 (wd r 1 : Nat), .int .u64 (wd r 2 : Nat), .int .u64 (wd r 3 : Nat)] ∧
  Below w0.heap.size w0 wr
theorem RefIn.on {g a b x r : Nat} {w0 w w' : World} (h : RefIn g a b x r w0 w) (hb : Below w.heap.size w w') : RefIn g a b x r w0 w' :=
  ⟨h.1.after hb, h.2.1.after hb, h.2.2.1.after hb, h.2.2.2.1.after hb, h.2.2.2.2.1.after hb, h.2.2.2.2.2.1.after hb, bel_on h.2.2.2.2.2.2 hb⟩
theorem RefIn.drew {g a b x r : Nat} {w0 w : World} (h : RefIn g a b x r w0 w) : RefIn g a b x r w0 w.drew :=
  ⟨h.1.drew, h.2.1.drew, h.2.2.1.drew, h.2.2.2.1.drew, h.2.2.2.2.1.drew, h.2.2.2.2.2.1.drew, h.2.2.2.2.2.2.drew⟩
/-- Another rest has been laid. -/
theorem RefIn.rest {g a b x r : Nat} {w0 w : World} (h : RefIn g a b x r w0 w) (hg : g = w0.heap.size) (s : Nat) : RefIn g a b x s w0 ((((w.setCell ⟨g + 1 + 1 + 1 + 1 + 1, 0, none⟩ (.int .u64 (wd s 0 : Nat))).setCell ⟨g + 1 + 1 + 1 + 1 + 1, 1, none⟩ (.int .u64 (wd s 1 : Nat))).setCell ⟨g + 1 + 1 + 1 + 1 + 1, 2, none⟩ (.int .u64 (wd s 2 : Nat))).setCell ⟨g + 1 + 1 + 1 + 1 + 1, 3, none⟩ (.int .u64 (wd s 3 : Nat))) :=
  ⟨far4 h.1 (by omega), far4 h.2.1 (by omega), far4 h.2.2.1 (by omega), far4 h.2.2.2.1 (by omega), far4 h.2.2.2.2.1 (by omega), stored4 h.2.2.2.2.2.1, bel4 h.2.2.2.2.2.2 (by omega)⟩
theorem RefIn.bit {g a b x T : Nat} {w0 w : World} (h : RefIn g a b x T w0 w) (hg : g = w0.heap.size) {S : Nat} (h1 : wd S 1 = wd T 1) (h2 : wd S 2 = wd T 2) (h3 : wd S 3 = wd T 3) : RefIn g a b x S w0 (w.setCell ⟨g + 1 + 1 + 1 + 1 + 1, 0, none⟩ (.int .u64 (wd S 0 : Nat))) :=
  ⟨h.1.far (by simp <;> omega) _, h.2.1.far (by simp <;> omega) _, h.2.2.1.far (by simp <;> omega) _, h.2.2.2.1.far (by simp <;> omega) _, h.2.2.2.2.1.far (by simp) _, by rw [h1, h2, h3]; exact h.2.2.2.2.2.1.put 0 _, h.2.2.2.2.2.2.setCell (by simp <;> omega) _⟩
theorem RefIn.quot {g a b Q j q t r : Nat} {w0 w : World} (h : RefIn g a b (hiB Q (j + 1)) r w0 w) (hg : g = w0.heap.size) (hj : j = 64 * q + t) (hq : q < 4) (ht : t < 64) (hb : Q.testBit j = true) :
    RefIn g a b (hiB Q j) r w0 (w.setCell ⟨g + 1 + 1 + 1 + 1, q, none⟩ (.int .u64 (wd (hiB Q j) q : Nat))) :=
  ⟨h.1.far (by simp <;> omega) _, h.2.1.far (by simp <;> omega) _, h.2.2.1.far (by simp) _, h.2.2.2.1.far (by simp) _, hiB_put h.2.2.2.2.1 hj hq ht hb, h.2.2.2.2.2.1.far (by simp) _, h.2.2.2.2.2.2.setCell (by simp <;> omega) _⟩
theorem RefIn.kept {g a b Q j r : Nat} {w0 w : World} (h : RefIn g a b (hiB Q (j + 1)) r w0 w) (hb : Q.testBit j = false) : RefIn g a b (hiB Q j) r w0 w :=
  ⟨h.1, h.2.1, h.2.2.1, h.2.2.2.1, hiB_kept hb h.2.2.2.2.1, h.2.2.2.2.2.1, h.2.2.2.2.2.2⟩

set_option maxRecDepth 100000 in
set_option maxHeartbeats 16000000 in
theorem refQuot_any (a b : Nat) (w : World) (ha : a < w256) (hb : b < w256) (hb0 : b ≠ 0) :
    Calls Try.prog 40 #[.agg #[.int .u64 (wd a 0 : Nat), .int .u64 (wd a 1 : Nat), .int .u64 (wd a 2 : Nat), .int .u64 (wd a 3 : Nat)], .agg #[.int .u64 (wd b 0 : Nat), .int .u64 (wd b 1 : Nat), .int .u64 (wd b 2 : Nat), .int .u64 (wd b 3 : Nat)]] w (BRet (.tuple #[.agg #[.int .u64 (wd (a / b) 0 : Nat), .int .u64 (wd (a / b) 1 : Nat), .int .u64 (wd (a / b) 2 : Nat), .int .u64 (wd (a / b) 3 : Nat)], .agg #[.int .u64 (wd (a % b) 0 : Nat), .int .u64 (wd (a % b) 1 : Nat), .int .u64 (wd (a % b) 2 : Nat), .int .u64 (wd (a % b) 3 : Nat)], .int .i64 0]) w) := by
  have KB := Lib.hid (fun w => refBits_any b w hb)
  have hbt : (((bitsN b : Nat) : Int) == 0) = false := by
    obtain ⟨k, hk, _, _⟩ := bitsN_spec hb0
    simp; omega
  have hst : restN a b 256 = 0 := restN_none ha
  have hqs : hiB (a / b) 256 = 0 := hiB_none (Nat.lt_of_le_of_lt (Nat.div_le_self _ _) ha)
  have HST := Lib.hid hst
  have HQS := Lib.hid hqs
  have HB0 := Lib.hid (Nat.pos_of_ne_zero hb0)
  clear hst hqs hb0
  generalize bitsN b = B at *
  obtain ⟨g, hg⟩ : ∃ g, g = w.heap.size := ⟨_, rfl⟩
  have HG := Lib.hid hg
  go_enter Try.func40, Try.ntmps40
  go_wp2_with fail
  refine (KB.out _).mono ?_
  rintro e w1 ⟨rfl, hb1⟩
  have hS1 : RefIn w.heap.size a b (hiB (a / b) 256) (restN a b 256) w w1 := by
    rw [HST.out, HQS.out]
    unfold RefIn
    rw [← zeros_blk]
    exact ⟨(show IsBlk _ w.heap.size 25 #[.int .u64 (wd a 0 : Nat), .int .u64 (wd a 1 : Nat), .int .u64 (wd a 2 : Nat), .int .u64 (wd a 3 : Nat)] from (((((IsBlk.newAt _ _ (by simp)).alloc _).alloc _).alloc _).alloc _).alloc _).after hb1,
      (show IsBlk _ (w.heap.size + 1) 25 #[.int .u64 (wd b 0 : Nat), .int .u64 (wd b 1 : Nat), .int .u64 (wd b 2 : Nat), .int .u64 (wd b 3 : Nat)] from ((((IsBlk.newAt _ _ (by simp)).alloc _).alloc _).alloc _).alloc _).after hb1,
      (show IsBlk _ (w.heap.size + 1 + 1) 25 #[.int .u64 0, .int .u64 0, .int .u64 0, .int .u64 0] from (((IsBlk.newAt _ _ (by simp)).alloc _).alloc _).alloc _).after hb1,
      (show IsBlk _ (w.heap.size + 1 + 1 + 1) 25 #[.int .u64 0, .int .u64 0, .int .u64 0, .int .u64 0] from ((IsBlk.newAt _ _ (by simp)).alloc _).alloc _).after hb1,
      (show IsBlk _ (w.heap.size + 1 + 1 + 1 + 1) 25 #[.int .u64 0, .int .u64 0, .int .u64 0, .int .u64 0] from (IsBlk.newAt _ _ (by simp)).alloc _).after hb1,
      (show IsBlk _ (w.heap.size + 1 + 1 + 1 + 1 + 1) 25 #[.int .u64 0, .int .u64 0, .int .u64 0, .int .u64 0] from IsBlk.newAt _ _ (by simp)).after hb1,
      (show Below w.heap.size w _ from by repeat' (first | exact Below.refl _ _ | refine bel_drewN ?_ _ | refine Below.drew ?_ | refine Below.alloc ?_ ?_ _ | refine Below.setCell ?_ ?_ _ | exact Nat.le_refl _ | (simp; done) | (simp; omega) | assumption)).trans (hb1.mono (by simp <;> omega))⟩
  have HS1 := Lib.hid hS1
  clear hb1 hS1 HST HQS
  go_wp2_with fail
  go_loopw [9] (fun i wr => ∃ (k : Nat) (z : Int), k ≤ 256 ∧ z = (k : Int) - 1 ∧ i = .int .i64 z ∧ RefIn w.heap.size a b (hiB (a / b) k) (restN a b k) w wr) (fun i _ => (intOf i + 1).toNat)
  case atStart => exact ⟨256, _, by omega, rfl, rfl, HS1.out⟩
  case round =>
    clear HS1
    obtain ⟨k, z, hk, hz, rfl, hS⟩ := hrel
    by_cases hlt : 1 ≤ k
    · obtain ⟨j, rfl⟩ : ∃ j, k = j + 1 := ⟨k - 1, by omega⟩
      obtain rfl : z = (j : Int) := by omega
      obtain ⟨p1, p2, p3, p4⟩ := quot_step (a := a) HB0.out hb j
      have hrl := restN_lt (a := a) HB0.out (j + 1)
      have hr256 : restN a b (j + 1) < w256 := by omega
      have KT := Lib.hid (fun w => bit_b hr256 255 w)
      rw [top_bit hr256] at KT
      obtain ⟨l0, l1, l2, l3⟩ := low_bit (r := restN a b (j + 1)) (a.testBit j)
      have hT : shiftN (restN a b (j + 1)) 1 = 2 * restN a b (j + 1) % w256 := by
        have := shiftN_up (restN a b (j + 1)) 1
        rw [Nat.mul_comm, Nat.pow_one] at this
        exact this
      have KS := Lib.hid (fun w => refShift_any (restN a b (j + 1)) 1 w hr256)
      rw [hT] at KS
      have KA := Lib.hid (fun w => bit_b ha (j : Int) w)
      rw [bitI_nat] at KA
      have KC := Lib.hid (fun w => refCmp_any (2 * restN a b (j + 1) % w256 + (a.testBit j).toNat) b w p1 hb)
      have KM := Lib.hid (fun w => refSub_any (2 * restN a b (j + 1) % w256 + (a.testBit j).toNat) b w p1 hb)
      obtain ⟨q, t, hq, ht, hj⟩ : ∃ q t, q < 4 ∧ t < 64 ∧ j = 64 * q + t := ⟨j / 64, j % 64, by omega, by omega, by omega⟩
      have HS := Lib.hid hS
      have P2 := Lib.hid p2
      have P3 := Lib.hid p3
      have P4 := Lib.hid p4
      have L0 := Lib.hid l0
      have L1 := Lib.hid l1
      have L2 := Lib.hid l2
      have L3 := Lib.hid l3
      have HJ := Lib.hid hj
      clear hz hlt hS p1 p2 p3 p4 l0 l1 l2 l3 hT hrl hr256 hj
      generalize restN a b (j + 1) = ρ at *
      generalize 2 * ρ % w256 = T at *
      have hj0 : (0 : Int) ≤ (j : Int) := by omega
      have p2 := P2.out
      generalize hbt : a.testBit j = bt at *
      clear hbt
      generalize hU : T + bt.toNat = U at *
      generalize cmpN U b = M at *
      generalize decide (2 ^ 255 ≤ ρ) = ov at *
      have three : (ov = true ∧ (a / b).testBit j = true) ∨ (ov = false ∧ 0 ≤ M ∧ (a / b).testBit j = true) ∨ (ov = false ∧ ¬ 0 ≤ M ∧ (a / b).testBit j = false) := by
        rw [p2]
        cases ov
        · by_cases hM : 0 ≤ M
          · simp [hM]
          · simp [hM]
        · simp
      clear p2 P2
      have G1 : IntKind.i64.wrap ((j : Int) - 1) = (j : Int) - 1 := IntWalk.i64_in _ (by omega)
      have HU := Lib.hid hU
      clear hU
      cases bt
      · skip
        obtain rfl : U = T := by have := HU.out; simp at this; omega
        rcases three with ⟨rfl, tb⟩ | ⟨rfl, tm, tb⟩ | ⟨rfl, tm, tb⟩
        all_goals
          have TB := Lib.hid tb
          clear tb
          have hr := HS.out.2.2.2.2.2.1
          have r0 := hr.cell 0
          have r1 := hr.cell 1
          have r2 := hr.cell 2
          have r3 := hr.cell 3
          simp at r0 r1 r2 r3
          have frr := hr.free
          have lr := hr.lt
          clear hr
          go_wp2_with fail
          refine (KT.out _).mono ?_
          rintro e w2 ⟨rfl, hb2⟩
          have hS2 := HS.out.on hb2
          clear r0 r1 r2 r3 frr lr
          have HS2 := Lib.hid hS2
          clear hb2 hS2
          have hr := HS2.out.2.2.2.2.2.1
          have r0 := hr.cell 0
          have r1 := hr.cell 1
          have r2 := hr.cell 2
          have r3 := hr.cell 3
          simp at r0 r1 r2 r3
          have frr := hr.free
          have lr := hr.lt
          clear hr
          go_wp2_with fail
          refine (KS.out _).mono ?_
          rintro e w3 ⟨rfl, hb3⟩
          have hS3 := HS2.out.on hb3
          clear r0 r1 r2 r3 frr lr
          have HS3 := Lib.hid hS3
          clear hb3 hS3
          have hr := HS3.out.2.2.2.2.2.1
          have r0 := hr.cell 0
          have r1 := hr.cell 1
          have r2 := hr.cell 2
          have r3 := hr.cell 3
          simp at r0 r1 r2 r3
          have frr := hr.free
          have lr := hr.lt
          clear hr
          have hx := HS3.out.1
          have x0 := hx.cell 0
          have x1 := hx.cell 1
          have x2 := hx.cell 2
          have x3 := hx.cell 3
          simp at x0 x1 x2 x3
          have frx := hx.free
          have lx := hx.lt
          clear hx
          go_wp2_with fail
          refine (KA.out _).mono ?_
          rintro e w4 ⟨rfl, hb4⟩
          have hS4 := (HS3.out.rest rfl _).on hb4
          clear r0 r1 r2 r3 frr lr
          clear x0 x1 x2 x3 frx lx
          have HS4 := Lib.hid hS4
          clear hb4 hS4
          have hr := HS4.out.2.2.2.2.2.1
          have r0 := hr.cell 0
          have r1 := hr.cell 1
          have r2 := hr.cell 2
          have r3 := hr.cell 3
          simp at r0 r1 r2 r3
          have frr := hr.free
          have lr := hr.lt
          clear hr
          have hs := HS4.out.2.1
          have s0 := hs.cell 0
          have s1 := hs.cell 1
          have s2 := hs.cell 2
          have s3 := hs.cell 3
          simp at s0 s1 s2 s3
          have frs := hs.free
          have ls := hs.lt
          clear hs
          go_wp2_with fail
        · skip
          refine (KM.out _).mono ?_
          rintro e w5 ⟨rfl, hb5⟩
          have hS5 := HS4.out.on hb5
          clear r0 r1 r2 r3 frr lr s0 s1 s2 s3 frs ls
          have HS5 := Lib.hid hS5
          clear hb5 hS5
          have hr := HS5.out.2.2.2.2.2.1
          have r0 := hr.cell 0
          have r1 := hr.cell 1
          have r2 := hr.cell 2
          have r3 := hr.cell 3
          simp at r0 r1 r2 r3
          have frr := hr.free
          have lr := hr.lt
          clear hr
          have hq5 := HS5.out.2.2.2.2.1
          have cq := word_cell hq5 hq
          have frq := hq5.free q
          have lq := hq5.lt
          have i1 : (j : Int) / 64 = (q : Nat) := by have := HJ.out; omega
          have i2 : (j : Int) % 64 = (t : Nat) := by have := HJ.out; omega
          have v1 := hiB_set (Q := a / b) (q := q) ht (by rw [← HJ.out]; exact TB.out)
          rw [← HJ.out] at v1
          have hw : IntKind.u64.wrap (t : Int) = t := IntWalk.u64_in _ (by omega)
          clear hq5
          go_wp2_with fail
          refine ⟨⟨j, _, by omega, rfl, rfl, ?_⟩, by simp [intOf]⟩
          rw [← P3.out TB.out]
          exact (HS5.out.rest rfl _).quot rfl HJ.out hq ht TB.out
        · skip
          refine (KC.out _).mono ?_
          rintro e w5 ⟨rfl, hb5⟩
          have hS5 := HS4.out.on hb5
          clear r0 r1 r2 r3 frr lr s0 s1 s2 s3 frs ls
          have HS5 := Lib.hid hS5
          clear hb5 hS5
          have hr := HS5.out.2.2.2.2.2.1
          have r0 := hr.cell 0
          have r1 := hr.cell 1
          have r2 := hr.cell 2
          have r3 := hr.cell 3
          simp at r0 r1 r2 r3
          have frr := hr.free
          have lr := hr.lt
          clear hr
          have hs := HS5.out.2.1
          have s0 := hs.cell 0
          have s1 := hs.cell 1
          have s2 := hs.cell 2
          have s3 := hs.cell 3
          simp at s0 s1 s2 s3
          have frs := hs.free
          have ls := hs.lt
          clear hs
          go_wp2_with fail
          refine (KM.out _).mono ?_
          rintro e w6 ⟨rfl, hb6⟩
          have hS6 := HS5.out.on hb6
          clear r0 r1 r2 r3 frr lr s0 s1 s2 s3 frs ls
          have HS6 := Lib.hid hS6
          clear hb6 hS6
          have hr := HS6.out.2.2.2.2.2.1
          have r0 := hr.cell 0
          have r1 := hr.cell 1
          have r2 := hr.cell 2
          have r3 := hr.cell 3
          simp at r0 r1 r2 r3
          have frr := hr.free
          have lr := hr.lt
          clear hr
          have hq5 := HS6.out.2.2.2.2.1
          have cq := word_cell hq5 hq
          have frq := hq5.free q
          have lq := hq5.lt
          have i1 : (j : Int) / 64 = (q : Nat) := by have := HJ.out; omega
          have i2 : (j : Int) % 64 = (t : Nat) := by have := HJ.out; omega
          have v1 := hiB_set (Q := a / b) (q := q) ht (by rw [← HJ.out]; exact TB.out)
          rw [← HJ.out] at v1
          have hw : IntKind.u64.wrap (t : Int) = t := IntWalk.u64_in _ (by omega)
          clear hq5
          go_wp2_with fail
          refine ⟨⟨j, _, by omega, rfl, rfl, ?_⟩, by simp [intOf]⟩
          rw [← P3.out TB.out]
          exact (HS6.out.rest rfl _).quot rfl HJ.out hq ht TB.out
        · skip
          refine (KC.out _).mono ?_
          rintro e w5 ⟨rfl, hb5⟩
          have hS5 := HS4.out.on hb5
          clear r0 r1 r2 r3 frr lr s0 s1 s2 s3 frs ls
          have HS5 := Lib.hid hS5
          clear hb5 hS5
          have hr := HS5.out.2.2.2.2.2.1
          have r0 := hr.cell 0
          have r1 := hr.cell 1
          have r2 := hr.cell 2
          have r3 := hr.cell 3
          simp at r0 r1 r2 r3
          have frr := hr.free
          have lr := hr.lt
          clear hr
          have hs := HS5.out.2.1
          have s0 := hs.cell 0
          have s1 := hs.cell 1
          have s2 := hs.cell 2
          have s3 := hs.cell 3
          simp at s0 s1 s2 s3
          have frs := hs.free
          have ls := hs.lt
          clear hs
          go_wp2_with fail
          refine ⟨⟨j, _, by omega, rfl, rfl, ?_⟩, by simp [intOf]⟩
          rw [← P4.out TB.out]
          exact HS5.out.kept TB.out
      · skip
        have hbo : bits .or .u64 ((wd T 0 : Nat) : Int) 1 = ((wd U 0 : Nat) : Int) := by have := L0.out; simpa using this
        rcases three with ⟨rfl, tb⟩ | ⟨rfl, tm, tb⟩ | ⟨rfl, tm, tb⟩
        all_goals
          have TB := Lib.hid tb
          clear tb
          have hr := HS.out.2.2.2.2.2.1
          have r0 := hr.cell 0
          have r1 := hr.cell 1
          have r2 := hr.cell 2
          have r3 := hr.cell 3
          simp at r0 r1 r2 r3
          have frr := hr.free
          have lr := hr.lt
          clear hr
          go_wp2_with fail
          refine (KT.out _).mono ?_
          rintro e w2 ⟨rfl, hb2⟩
          have hS2 := HS.out.on hb2
          clear r0 r1 r2 r3 frr lr
          have HS2 := Lib.hid hS2
          clear hb2 hS2
          have hr := HS2.out.2.2.2.2.2.1
          have r0 := hr.cell 0
          have r1 := hr.cell 1
          have r2 := hr.cell 2
          have r3 := hr.cell 3
          simp at r0 r1 r2 r3
          have frr := hr.free
          have lr := hr.lt
          clear hr
          go_wp2_with fail
          refine (KS.out _).mono ?_
          rintro e w3 ⟨rfl, hb3⟩
          have hS3 := HS2.out.on hb3
          clear r0 r1 r2 r3 frr lr
          have HS3 := Lib.hid hS3
          clear hb3 hS3
          have hr := HS3.out.2.2.2.2.2.1
          have r0 := hr.cell 0
          have r1 := hr.cell 1
          have r2 := hr.cell 2
          have r3 := hr.cell 3
          simp at r0 r1 r2 r3
          have frr := hr.free
          have lr := hr.lt
          clear hr
          have hx := HS3.out.1
          have x0 := hx.cell 0
          have x1 := hx.cell 1
          have x2 := hx.cell 2
          have x3 := hx.cell 3
          simp at x0 x1 x2 x3
          have frx := hx.free
          have lx := hx.lt
          clear hx
          go_wp2_with fail
          refine (KA.out _).mono ?_
          rintro e w4 ⟨rfl, hb4⟩
          have hS4 := (HS3.out.rest rfl _).on hb4
          clear r0 r1 r2 r3 frr lr
          clear x0 x1 x2 x3 frx lx
          have HS4 := Lib.hid hS4
          clear hb4 hS4
          have hr := HS4.out.2.2.2.2.2.1
          have r0 := hr.cell 0
          have r1 := hr.cell 1
          have r2 := hr.cell 2
          have r3 := hr.cell 3
          simp at r0 r1 r2 r3
          have frr := hr.free
          have lr := hr.lt
          clear hr
          have hs := HS4.out.2.1
          have s0 := hs.cell 0
          have s1 := hs.cell 1
          have s2 := hs.cell 2
          have s3 := hs.cell 3
          simp at s0 s1 s2 s3
          have frs := hs.free
          have ls := hs.lt
          clear hs
          rw [← L1.out] at r1
          rw [← L2.out] at r2
          rw [← L3.out] at r3
          go_wp2_with fail
        · skip
          refine (KM.out _).mono ?_
          rintro e w5 ⟨rfl, hb5⟩
          have hS5 := (HS4.out.bit rfl L1.out L2.out L3.out).on hb5
          clear r0 r1 r2 r3 frr lr s0 s1 s2 s3 frs ls
          have HS5 := Lib.hid hS5
          clear hb5 hS5
          have hr := HS5.out.2.2.2.2.2.1
          have r0 := hr.cell 0
          have r1 := hr.cell 1
          have r2 := hr.cell 2
          have r3 := hr.cell 3
          simp at r0 r1 r2 r3
          have frr := hr.free
          have lr := hr.lt
          clear hr
          have hq5 := HS5.out.2.2.2.2.1
          have cq := word_cell hq5 hq
          have frq := hq5.free q
          have lq := hq5.lt
          have i1 : (j : Int) / 64 = (q : Nat) := by have := HJ.out; omega
          have i2 : (j : Int) % 64 = (t : Nat) := by have := HJ.out; omega
          have v1 := hiB_set (Q := a / b) (q := q) ht (by rw [← HJ.out]; exact TB.out)
          rw [← HJ.out] at v1
          have hw : IntKind.u64.wrap (t : Int) = t := IntWalk.u64_in _ (by omega)
          clear hq5
          go_wp2_with fail
          refine ⟨⟨j, _, by omega, rfl, rfl, ?_⟩, by simp [intOf]⟩
          rw [← P3.out TB.out]
          exact (HS5.out.rest rfl _).quot rfl HJ.out hq ht TB.out
        · skip
          refine (KC.out _).mono ?_
          rintro e w5 ⟨rfl, hb5⟩
          have hS5 := (HS4.out.bit rfl L1.out L2.out L3.out).on hb5
          clear r0 r1 r2 r3 frr lr s0 s1 s2 s3 frs ls
          have HS5 := Lib.hid hS5
          clear hb5 hS5
          have hr := HS5.out.2.2.2.2.2.1
          have r0 := hr.cell 0
          have r1 := hr.cell 1
          have r2 := hr.cell 2
          have r3 := hr.cell 3
          simp at r0 r1 r2 r3
          have frr := hr.free
          have lr := hr.lt
          clear hr
          have hs := HS5.out.2.1
          have s0 := hs.cell 0
          have s1 := hs.cell 1
          have s2 := hs.cell 2
          have s3 := hs.cell 3
          simp at s0 s1 s2 s3
          have frs := hs.free
          have ls := hs.lt
          clear hs
          go_wp2_with fail
          refine (KM.out _).mono ?_
          rintro e w6 ⟨rfl, hb6⟩
          have hS6 := HS5.out.on hb6
          clear r0 r1 r2 r3 frr lr s0 s1 s2 s3 frs ls
          have HS6 := Lib.hid hS6
          clear hb6 hS6
          have hr := HS6.out.2.2.2.2.2.1
          have r0 := hr.cell 0
          have r1 := hr.cell 1
          have r2 := hr.cell 2
          have r3 := hr.cell 3
          simp at r0 r1 r2 r3
          have frr := hr.free
          have lr := hr.lt
          clear hr
          have hq5 := HS6.out.2.2.2.2.1
          have cq := word_cell hq5 hq
          have frq := hq5.free q
          have lq := hq5.lt
          have i1 : (j : Int) / 64 = (q : Nat) := by have := HJ.out; omega
          have i2 : (j : Int) % 64 = (t : Nat) := by have := HJ.out; omega
          have v1 := hiB_set (Q := a / b) (q := q) ht (by rw [← HJ.out]; exact TB.out)
          rw [← HJ.out] at v1
          have hw : IntKind.u64.wrap (t : Int) = t := IntWalk.u64_in _ (by omega)
          clear hq5
          go_wp2_with fail
          refine ⟨⟨j, _, by omega, rfl, rfl, ?_⟩, by simp [intOf]⟩
          rw [← P3.out TB.out]
          exact (HS6.out.rest rfl _).quot rfl HJ.out hq ht TB.out
        · skip
          refine (KC.out _).mono ?_
          rintro e w5 ⟨rfl, hb5⟩
          have hS5 := (HS4.out.bit rfl L1.out L2.out L3.out).on hb5
          clear r0 r1 r2 r3 frr lr s0 s1 s2 s3 frs ls
          have HS5 := Lib.hid hS5
          clear hb5 hS5
          have hr := HS5.out.2.2.2.2.2.1
          have r0 := hr.cell 0
          have r1 := hr.cell 1
          have r2 := hr.cell 2
          have r3 := hr.cell 3
          simp at r0 r1 r2 r3
          have frr := hr.free
          have lr := hr.lt
          clear hr
          have hs := HS5.out.2.1
          have s0 := hs.cell 0
          have s1 := hs.cell 1
          have s2 := hs.cell 2
          have s3 := hs.cell 3
          simp at s0 s1 s2 s3
          have frs := hs.free
          have ls := hs.lt
          clear hs
          go_wp2_with fail
          refine ⟨⟨j, _, by omega, rfl, rfl, ?_⟩, by simp [intOf]⟩
          rw [← P4.out TB.out]
          exact HS5.out.kept TB.out
    · obtain rfl : k = 0 := by omega
      obtain ⟨hA, hBB, hZ1, hZ2, hQ, hR, hB⟩ := hS
      rw [hiB_zero] at hQ
      rw [restN_zero] at hR
      have hz0 : ¬ (0 : Int) ≤ z := by omega
      have q0 := hQ.cell 0
      have q1 := hQ.cell 1
      have q2 := hQ.cell 2
      have q3 := hQ.cell 3
      simp at q0 q1 q2 q3
      have frq := hQ.free
      have r0 := hR.cell 0
      have r1 := hR.cell 1
      have r2 := hR.cell 2
      have r3 := hR.cell 3
      simp at r0 r1 r2 r3
      have frr := hR.free
      have y0 := hZ1.cell 0
      have y1 := hZ1.cell 1
      have y2 := hZ1.cell 2
      have y3 := hZ1.cell 3
      simp at y0 y1 y2 y3
      have fry := hZ1.free
      have v0 := hZ2.cell 0
      have v1 := hZ2.cell 1
      have v2 := hZ2.cell 2
      have v3 := hZ2.cell 3
      simp at v0 v1 v2 v3
      have frv := hZ2.free
      have lq := hQ.lt
      have lr := hR.lt
      have HQ := Lib.hid hZ1
      have HR := Lib.hid hZ2
      have HB := Lib.hid hB
      clear hA hBB hQ hR hB hz hlt hk hZ1 hZ2
      generalize a / b = qq at *
      generalize a % b = rr at *
      go_wp2_with fail
      go_region
      go_wp2_with fail
      all_goals
        have fq := (far4 (g' := w.heap.size + 1 + 1 + 1) (v0 := .int .u64 (wd rr 0 : Nat)) (v1 := .int .u64 (wd rr 1 : Nat)) (v2 := .int .u64 (wd rr 2 : Nat)) (v3 := .int .u64 (wd rr 3 : Nat)) (stored4 (v0 := .int .u64 (wd qq 0 : Nat)) (v1 := .int .u64 (wd qq 1 : Nat)) (v2 := .int .u64 (wd qq 2 : Nat)) (v3 := .int .u64 (wd qq 3 : Nat)) HQ.out) (by omega)).drew
        have fr := (stored4 (v0 := .int .u64 (wd rr 0 : Nat)) (v1 := .int .u64 (wd rr 1 : Nat)) (v2 := .int .u64 (wd rr 2 : Nat)) (v3 := .int .u64 (wd rr 3 : Nat)) (far4 (g' := w.heap.size + 1 + 1) (v0 := .int .u64 (wd qq 0 : Nat)) (v1 := .int .u64 (wd qq 1 : Nat)) (v2 := .int .u64 (wd qq 2 : Nat)) (v3 := .int .u64 (wd qq 3 : Nat)) HR.out (by omega))).drew
        have a0 := fq.cell 0
        have a1 := fq.cell 1
        have a2 := fq.cell 2
        have a3 := fq.cell 3
        have b0 := fr.cell 0
        have b1 := fr.cell 1
        have b2 := fr.cell 2
        have b3 := fr.cell 3
        simp at a0 a1 a2 a3 b0 b1 b2 b3
        exact bodyPost_ret (v := .tuple #[.agg #[.int .u64 (wd qq 0 : Nat), .int .u64 (wd qq 1 : Nat), .int .u64 (wd qq 2 : Nat), .int .u64 (wd qq 3 : Nat)], .agg #[.int .u64 (wd rr 0 : Nat), .int .u64 (wd rr 1 : Nat), .int .u64 (wd rr 2 : Nat), .int .u64 (wd rr 3 : Nat)], .int .i64 0]) (by simp [results, Try.results40, go_sem, a0, a1, a2, a3, b0, b1, b2, b3]) rfl ⟨rfl, (bel4 (bel4 HB.out (by omega)) (by omega)).drew⟩
end Go.Proofs.Ythmaijmjhfngpaa
