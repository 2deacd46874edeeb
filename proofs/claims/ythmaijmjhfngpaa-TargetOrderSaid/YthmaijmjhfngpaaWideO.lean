/- The reference's sums of numbers of four words: lists of 257 bits. -/
import Derived.Test.YthmaijmjhfngpaaWideN
namespace Go.Proofs.Ythmaijmjhfngpaa
open Go.RowKit

/-- What is carried behind k bits. -/
def cb (a b c k : Nat) : Nat := (a % 2 ^ k + b % 2 ^ k + c) / 2 ^ k
theorem cb_zero (a b c : Nat) : cb a b c 0 = c := by simp [cb, Nat.mod_one]
theorem cb_le {a b c : Nat} (hc : c ≤ 1) (k : Nat) : cb a b c k ≤ 1 := by
  unfold cb
  have hp : 0 < 2 ^ k := Nat.two_pow_pos _
  have h1 := Nat.mod_lt a hp
  have h2 := Nat.mod_lt b hp
  have : (a % 2 ^ k + b % 2 ^ k + c) / 2 ^ k < 2 := Nat.div_lt_of_lt_mul (by omega)
  omega
theorem cb_step (a b c k : Nat) : cb a b c (k + 1) = ((a.testBit k).toNat + (b.testBit k).toNat + cb a b c k) / 2 ∧ (a + b + c).testBit k = decide (((a.testBit k).toNat + (b.testBit k).toNat + cb a b c k) % 2 = 1) := by
  have hp : 0 < 2 ^ k := Nat.two_pow_pos _
  have bit : ∀ x : Nat, (x.testBit k).toNat = x / 2 ^ k % 2 := fun x => by
    rw [Nat.testBit_eq_decide_div_mod_eq]
    by_cases h : x / 2 ^ k % 2 = 1
    · simp [h]
    · have : x / 2 ^ k % 2 = 0 := by omega
      simp [this]
  constructor
  · rw [bit a, bit b]
    have split : ∀ x : Nat, x % 2 ^ (k + 1) = x % 2 ^ k + 2 ^ k * (x / 2 ^ k % 2) := fun x => by rw [Nat.pow_succ, Nat.mod_mul]
    show (a % 2 ^ (k + 1) + b % 2 ^ (k + 1) + c) / 2 ^ (k + 1) = _
    rw [split a, split b, Nat.pow_succ, ← Nat.div_div_eq_div_mul]
    congr 1
    rw [show a % 2 ^ k + 2 ^ k * (a / 2 ^ k % 2) + (b % 2 ^ k + 2 ^ k * (b / 2 ^ k % 2)) + c = (a % 2 ^ k + b % 2 ^ k + c) + 2 ^ k * (a / 2 ^ k % 2 + b / 2 ^ k % 2) from by rw [Nat.mul_add]; omega]
    rw [Nat.add_mul_div_left _ _ hp]
    show cb a b c k + _ = _
    omega
  · rw [Nat.testBit_eq_decide_div_mod_eq, bit a, bit b]
    congr 1
    have ha := Nat.div_add_mod a (2 ^ k)
    have hb := Nat.div_add_mod b (2 ^ k)
    have e : (a + b + c) / 2 ^ k = cb a b c k + (a / 2 ^ k + b / 2 ^ k) := by
      have : a + b + c = (a % 2 ^ k + b % 2 ^ k + c) + 2 ^ k * (a / 2 ^ k + b / 2 ^ k) := by rw [Nat.mul_add]; omega
      rw [this, Nat.add_mul_div_left _ _ hp]
      rfl
    rw [e]
    apply propext
    omega
theorem cb_top {a b c : Nat} (ha : a < w256) (hb : b < w256) (hc : c ≤ 1) : (a + b + c).testBit 256 = decide (cb a b c 256 = 1) := by
  have e : cb a b c 256 = (a + b + c) / w256 := by
    unfold cb
    rw [show (2 : Nat) ^ 256 = w256 from rfl, Nat.mod_eq_of_lt ha, Nat.mod_eq_of_lt hb]
  rw [Nat.testBit_eq_decide_div_mod_eq, show (2 : Nat) ^ 256 = w256 from rfl, e]
  congr 1
  rw [w256_eq] at *
  have : (a + b + c) / 115792089237316195423570985008687907853269984665640564039457584007913129639936 ≤ 1 := by omega
  apply propext
  omega

/-- It returns a slice of 257 bits. -/
def BitsRet (f : Nat → Bool) (w : World) (e : Ending) (w' : World) : Prop :=
  ∃ (g : Nat) (cs : Array Value), e = .returned (.slice (some ⟨g, 0, none⟩) 257 257) ∧ w.heap.size ≤ g ∧ cs.size = 257 ∧ Fill f 257 cs ∧ IsBlk w' g 4 cs ∧ Below w.heap.size w w'
theorem BitsRet.mk {f : Nat → Bool} {w w' : World} (g : Nat) (cs : Array Value) (h1 : w.heap.size ≤ g) (h2 : cs.size = 257) (h3 : Fill f 257 cs) (h4 : IsBlk w' g 4 cs) (h5 : Below w.heap.size w w') : BitsRet f w (.returned (.slice (some ⟨g, 0, none⟩) 257 257)) w' := ⟨g, cs, rfl, h1, h2, h3, h4, h5⟩

set_option maxRecDepth 100000 in
set_option maxHeartbeats 4000000 in
theorem refSum_any (a b : Nat) (c : Bool) (w : World) (ha : a < w256) (hb : b < w256) :
    Calls Try.prog 54 #[.agg #[.int .u64 (wd a 0 : Nat), .int .u64 (wd a 1 : Nat), .int .u64 (wd a 2 : Nat), .int .u64 (wd a 3 : Nat)], .agg #[.int .u64 (wd b 0 : Nat), .int .u64 (wd b 1 : Nat), .int .u64 (wd b 2 : Nat), .int .u64 (wd b 3 : Nat)], .bool c] w (BitsRet (fun i => (a + b + c.toNat).testBit i) w) := by
  have hmk : ∀ w : World, (Instr.makeSlice 77 (.int .i64 257) (.int .i64 257)).run Try.prog w = .ok (.slice (some ⟨w.heap.size, 0, none⟩) 257 257) (w.alloc (.cells (falses 257) 4)) := make_bools 257 (.inr rfl)
  have hc1 : c.toNat ≤ 1 := by cases c <;> simp
  have HC1 := Lib.hid hc1
  have h0 : decide (cb a b c.toNat 0 = 1) = c := by rw [cb_zero]; cases c <;> rfl
  have H0 := Lib.hid h0
  have HT := Lib.hid (cb_top ha hb hc1)
  clear hc1 h0
  go_enter Try.func54, Try.ntmps54
  go_wp2_with fail
  generalize hC : c.toNat = C at *
  have HCC := Lib.hid hC
  clear hC
  go_loopw [2, 8] (fun cv i wr => ∃ (k : Nat) (cs : Array Value), k ≤ 256 ∧ i = .int .i64 k ∧ cv = .bool (decide (cb a b C k = 1)) ∧ cs.size = 257 ∧ Fill (fun i => (a + b + C).testBit i) k cs ∧ IsBlk wr w.heap.size 25 #[.int .u64 (wd a 0 : Nat), .int .u64 (wd a 1 : Nat), .int .u64 (wd a 2 : Nat), .int .u64 (wd a 3 : Nat)] ∧
    IsBlk wr (w.heap.size + 1) 25 #[.int .u64 (wd b 0 : Nat), .int .u64 (wd b 1 : Nat), .int .u64 (wd b 2 : Nat), .int .u64 (wd b 3 : Nat)] ∧ IsBlk wr (w.heap.size + 1 + 1) 4 cs ∧ Below w.heap.size w wr) (fun _ i _ => 256 - (intOf i).toNat)
  case atStart => exact ⟨0, falses 257, by omega, rfl, by rw [H0.out], falses_size 257, fun i h => by omega, by repeat' (first | with_reducible assumption | with_reducible refine IsBlk.drewN ?_ _ | with_reducible refine IsBlk.drew ?_ | with_reducible refine IsBlk.newAt _ _ ?_ | with_reducible refine IsBlk.alloc ?_ _ | with_reducible refine IsBlk.far ?_ ?_ _ | (simp; done) | (simp; omega)), by repeat' (first | with_reducible assumption | with_reducible refine IsBlk.drewN ?_ _ | with_reducible refine IsBlk.drew ?_ | with_reducible refine IsBlk.newAt _ _ ?_ | with_reducible refine IsBlk.alloc ?_ _ | with_reducible refine IsBlk.far ?_ ?_ _ | (simp; done) | (simp; omega)), by repeat' (first | with_reducible assumption | with_reducible refine IsBlk.drewN ?_ _ | with_reducible refine IsBlk.drew ?_ | with_reducible refine IsBlk.newAt _ _ ?_ | with_reducible refine IsBlk.alloc ?_ _ | with_reducible refine IsBlk.far ?_ ?_ _ | (simp; done) | (simp; omega)), by repeat' (first | exact Below.refl _ _ | refine bel_drewN ?_ _ | refine Below.drew ?_ | refine Below.alloc ?_ ?_ _ | refine Below.setCell ?_ ?_ _ | exact Nat.le_refl _ | (simp; done) | (simp; omega) | assumption)⟩
  case round =>
    obtain ⟨k, cs, hk, rfl, rfl, hsz, hf, hA, hBB, hO, hB⟩ := hrel
    have HA := Lib.hid hA
    have HBB := Lib.hid hBB
    have HO := Lib.hid hO
    have HB := Lib.hid hB
    have HX := Lib.hid hf
    have HZ := Lib.hid hsz
    by_cases hlt : k < 256
    · skip
      have c0 := hA.cell 0
      have c1 := hA.cell 1
      have c2 := hA.cell 2
      have c3 := hA.cell 3
      simp at c0 c1 c2 c3
      have frc := hA.free
      have d0 : ∀ o, (wr.alloc o).cell? ⟨w.heap.size + 1, 0, none⟩ = some (.int .u64 (wd b 0 : Nat)) := fun o => by rw [(hBB.alloc o).cell]; rfl
      have d1 : ∀ o, (wr.alloc o).cell? ⟨w.heap.size + 1, 1, none⟩ = some (.int .u64 (wd b 1 : Nat)) := fun o => by rw [(hBB.alloc o).cell]; rfl
      have d2 : ∀ o, (wr.alloc o).cell? ⟨w.heap.size + 1, 2, none⟩ = some (.int .u64 (wd b 2 : Nat)) := fun o => by rw [(hBB.alloc o).cell]; rfl
      have d3 : ∀ o, (wr.alloc o).cell? ⟨w.heap.size + 1, 3, none⟩ = some (.int .u64 (wd b 3 : Nat)) := fun o => by rw [(hBB.alloc o).cell]; rfl
      have hlt' : (k : Int) < 256 := by omega
      have hx : ∀ o o', ((wr.alloc o).alloc o').cell? ⟨w.heap.size + 1 + 1, k, none⟩ = some (cs[k]'(by omega)) := fun o o' => by rw [((hO.alloc o).alloc o').cell, Array.getElem?_eq_getElem]
      have hfr : ∀ o o', ((wr.alloc o).alloc o').frozen? ⟨w.heap.size + 1 + 1, k, none⟩ = false := fun o o' => ((hO.alloc o).alloc o').free k
      generalize cs[k]'(by omega) = x at hx
      clear hA hBB hO hB hf hsz frc
      obtain ⟨e1, e2⟩ := cb_step a b C k
      have hcl := cb_le (a := a) (b := b) HC1.out k
      have b1 := bitI_nat a k
      have b2 := bitI_nat b k
      have hq : cb a b C k = (decide (cb a b C k = 1)).toNat := by
        by_cases h : cb a b C k = 1
        · rw [decide_eq_true h, h]; rfl
        · rw [decide_eq_false h]; show cb a b C k = 0; omega
      have fin : ∀ (n : Nat) (w2 : World), n = (a.testBit k).toNat + (b.testBit k).toNat + (decide (cb a b C k = 1)).toNat → (decide (n % 2 = 1) = (a + b + C).testBit k ∧ decide (2 ≤ n) = decide (cb a b C (k + 1) = 1)) := by
        intro n _ hn
        rw [← hq] at hn
        have t1 := Bool.toNat_le (a.testBit k)
        have t2 := Bool.toNat_le (b.testBit k)
        refine ⟨by rw [e2, hn], ?_⟩
        rw [e1, ← hn]
        congr 1
        apply propext
        omega
      have FIN := Lib.hid fin
      clear fin e1 e2 hcl hq
      generalize decide (cb a b C k = 1) = q at *
      generalize a.testBit k = p1 at *
      generalize b.testBit k = p2 at *
      cases p1 <;> cases p2 <;> cases q
      all_goals
        have B1 := Lib.hid b1
        have B2 := Lib.hid b2
        clear b1 b2
        have fo := FIN.out _ w rfl
        obtain ⟨f1, f2⟩ := fo
        simp only [Bool.toNat_false, Bool.toNat_true] at f1 f2
        simp at f1 f2
        have F1 := Lib.hid f1
        have F2 := Lib.hid f2
        clear f1 f2 FIN
        go_wp2_with fail
        refine (bit_any _ _ _ ha).mono ?_
        rintro e w' ⟨rfl, rfl⟩
        rw [B1.out]
        go_wp2_with fail
        refine (bit_any _ _ _ hb).mono ?_
        rintro e w' ⟨rfl, rfl⟩
        rw [B2.out]
        go_wp2_with fail
        refine ⟨⟨k + 1, cs.setIfInBounds k (.bool ((a + b + C).testBit k)), by omega, by go_num, ?_, by simpa using HZ.out, HX.out.next (by have := HZ.out; omega), ?_, ?_, ?_, ?_⟩, by simp [intOf]; omega⟩
        · have := F2.out
          simp [this]
        · exact ((HA.out.alloc _).alloc _).far (by simp; omega) _
        · exact ((HBB.out.alloc _).alloc _).far (by simp) _
        · rw [F1.out]
          exact ((HO.out.alloc _).alloc _).put _ _
        · exact ((HB.out.alloc (by have := HA.out.lt; omega) _).alloc (by have := HA.out.lt; simp; omega) _).setCell (by simp; omega) _
    · obtain rfl : k = 256 := by omega
      have hx : wr.cell? ⟨w.heap.size + 1 + 1, 256, none⟩ = some (cs[256]'(by omega)) := by rw [hO.cell, Array.getElem?_eq_getElem]
      have hfr := hO.free 256
      have hn := hf.next (by omega)
      have hT := HT.out
      simp only [hT] at hn
      have HN := Lib.hid hn
      have HOL := hO.lt
      generalize cs[256]'(by omega) = x at hx
      clear hA hBB hO hB hf hsz hlt hk hn hT
      generalize decide (cb a b C 256 = 1) = q at *
      go_wp2_with fail
      go_ret
      have hN := HN.out
      rw [← HCC.out] at hN
      exact BitsRet.mk _ _ (by omega) (by simpa using HZ.out) hN (HO.out.put _ _) (HB.out.setCell (by simp; omega) _)

theorem BitsRet.all {f : Nat → Bool} {cs : Array Value} {g : Nat} {w : World} (h : IsBlk w g 4 cs) (hf : Fill f 257 cs) : ∀ i, i < 257 → w.cell? ⟨g, i, none⟩ = some (.bool (f i)) := fun i hi => by rw [h.cell]; exact hf i hi

theorem addN_bits (a b : Nat) : ofBits (fun i => (a + b + false.toNat).testBit i) 256 = addN a b := by
  refine ofBits_eq (addN_lt a b) fun p hp => ?_
  unfold addN
  rw [show w256 = 2 ^ 256 from rfl, Nat.testBit_mod_two_pow]
  simp [hp]
theorem addOv_bits {a b : Nat} (ha : a < w256) (hb : b < w256) : (a + b + false.toNat).testBit 256 = addOv a b := by
  rw [Nat.testBit_eq_decide_div_mod_eq, show (2 : Nat) ^ 256 = w256 from rfl]
  unfold addOv
  congr 1
  rw [w256_eq] at *
  apply propext
  simp
  omega
theorem subN_bits {a b : Nat} (ha : a < w256) (hb : b < w256) : ofBits (fun i => (a + notN b + true.toNat).testBit i) 256 = subN a b := by
  refine ofBits_eq (subN_lt a b) fun p hp => ?_
  have e : subN a b = (a + notN b + true.toNat) % 2 ^ 256 := by
    unfold subN notN
    rw [show (2 : Nat) ^ 256 = w256 from rfl]
    rw [w256_eq] at *
    simp
    congr 1
    omega
  rw [e, Nat.testBit_mod_two_pow]
  simp [hp]
theorem subLess_bits {a b : Nat} (ha : a < w256) (hb : b < w256) : (!(a + notN b + true.toNat).testBit 256) = subLess a b := by
  rw [Nat.testBit_eq_decide_div_mod_eq, show (2 : Nat) ^ 256 = w256 from rfl, ← decide_not]
  unfold subLess notN
  congr 1
  rw [w256_eq] at *
  apply propext
  simp
  omega
end Go.Proofs.Ythmaijmjhfngpaa
