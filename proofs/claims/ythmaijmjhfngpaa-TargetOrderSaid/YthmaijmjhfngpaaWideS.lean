/- The reference's functions on numbers of four words, continued: lists of bits. -/
import Derived.Test.YthmaijmjhfngpaaWideR
namespace Go.Proofs.Ythmaijmjhfngpaa
open Go.RowKit

/-- The first k cells are these bits. -/
def Fill (f : Nat → Bool) (k : Nat) (cs : Array Value) : Prop := ∀ i, i < k → cs[i]? = some (.bool (f i))
theorem Fill.next {f : Nat → Bool} {k : Nat} {cs : Array Value} (h : Fill f k cs) (hk : k < cs.size) : Fill f (k + 1) (cs.setIfInBounds k (.bool (f k))) := by
  intro i hi
  rw [Array.getElem?_setIfInBounds]
  by_cases he : k = i
  · subst he; simp [hk]
  · rw [if_neg he]; exact h i (by omega)
def falses (n : Nat) : Array Value := Array.replicate n (.bool false)
theorem falses_size (n : Nat) : (falses n).size = n := by simp [falses]
theorem falses_fill (n : Nat) : Fill (fun _ => false) n (falses n) := fun i hi => by simp [falses, hi]
theorem make_bools (n : Nat) (hn : n = 256 ∨ n = 257) (w : World) : (Instr.makeSlice 77 (.int .i64 n) (.int .i64 n)).run Try.prog w = .ok (.slice (some ⟨w.heap.size, 0, none⟩) n n) (w.alloc (.cells (falses n) 4)) := by
  rcases hn with rfl | rfl <;> kernel_rfl

set_option maxRecDepth 100000 in
set_option maxHeartbeats 2000000 in
theorem refShift_in (a : Nat) (c : Int) (w : World) (ha : a < w256) (h1 : -256 ≤ c) (h2 : c ≤ 256) :
    Calls Try.prog 51 #[.agg #[.int .u64 (wd a 0 : Nat), .int .u64 (wd a 1 : Nat), .int .u64 (wd a 2 : Nat), .int .u64 (wd a 3 : Nat)], .int .i64 c] w (BRet (.agg #[.int .u64 (wd (shiftN a c) 0 : Nat), .int .u64 (wd (shiftN a c) 1 : Nat), .int .u64 (wd (shiftN a c) 2 : Nat), .int .u64 (wd (shiftN a c) 3 : Nat)]) w) := by
  have hmk : ∀ w : World, (Instr.makeSlice 77 (.int .i64 256) (.int .i64 256)).run Try.prog w = .ok (.slice (some ⟨w.heap.size, 0, none⟩) 256 256) (w.alloc (.cells (falses 256) 4)) := make_bools 256 (.inl rfl)
  have hfin : ofBits (fun i => bitI a ((i : Int) - c)) 256 = shiftN a c := ofBits_eq (shiftN_lt ha c) fun p hp => by rw [shiftN_bit ha]; simp [hp]
  have HF := Lib.hid hfin
  clear hfin
  generalize hS : shiftN a c = S at *
  clear hS
  go_enter Try.func51, Try.ntmps51
  go_wp2_with fail
  go_loopw [6] (fun i wr => ∃ (k : Nat) (cs : Array Value), k ≤ 256 ∧ i = .int .i64 k ∧ cs.size = 256 ∧ Fill (fun i => bitI a ((i : Int) - c)) k cs ∧ IsBlk wr w.heap.size 25 #[.int .u64 (wd a 0 : Nat), .int .u64 (wd a 1 : Nat), .int .u64 (wd a 2 : Nat), .int .u64 (wd a 3 : Nat)] ∧
    IsBlk wr (w.heap.size + 1) 25 #[.int .u64 0, .int .u64 0, .int .u64 0, .int .u64 0] ∧ IsBlk wr (w.heap.size + 1 + 1) 4 cs ∧ Below w.heap.size w wr) (fun i _ => 256 - (intOf i).toNat)
  case atStart => exact ⟨0, falses 256, by omega, rfl, falses_size 256, fun i h => by omega, by repeat' (first | with_reducible assumption | with_reducible refine IsBlk.drewN ?_ _ | with_reducible refine IsBlk.drew ?_ | with_reducible refine IsBlk.newAt _ _ ?_ | with_reducible refine IsBlk.alloc ?_ _ | with_reducible refine IsBlk.far ?_ ?_ _ | (simp; done) | (simp; omega)), by repeat' (first | with_reducible assumption | with_reducible refine IsBlk.drewN ?_ _ | with_reducible refine IsBlk.drew ?_ | with_reducible refine IsBlk.newAt _ _ ?_ | with_reducible refine IsBlk.alloc ?_ _ | with_reducible refine IsBlk.far ?_ ?_ _ | (simp; done) | (simp; omega)), by repeat' (first | with_reducible assumption | with_reducible refine IsBlk.drewN ?_ _ | with_reducible refine IsBlk.drew ?_ | with_reducible refine IsBlk.newAt _ _ ?_ | with_reducible refine IsBlk.alloc ?_ _ | with_reducible refine IsBlk.far ?_ ?_ _ | (simp; done) | (simp; omega)), by repeat' (first | exact Below.refl _ _ | refine bel_drewN ?_ _ | refine Below.drew ?_ | refine Below.alloc ?_ ?_ _ | refine Below.setCell ?_ ?_ _ | exact Nat.le_refl _ | (simp; done) | (simp; omega) | assumption)⟩
  case round =>
    obtain ⟨k, cs, hk, rfl, hsz, hf, hA, hR, hO, hB⟩ := hrel
    have HA := Lib.hid hA
    have HR := Lib.hid hR
    have HO := Lib.hid hO
    have HB := Lib.hid hB
    have HX := Lib.hid hf
    have HZ := Lib.hid hsz
    by_cases hlt : k < 256
    · have c0 := hA.cell 0
      have c1 := hA.cell 1
      have c2 := hA.cell 2
      have c3 := hA.cell 3
      simp at c0 c1 c2 c3
      have hlt' : (k : Int) < 256 := by omega
      have hx : ∀ o, (wr.alloc o).cell? ⟨w.heap.size + 1 + 1, k, none⟩ = some (cs[k]'(by omega)) := fun o => by rw [(hO.alloc o).cell, Array.getElem?_eq_getElem]
      have hfr : ∀ o, (wr.alloc o).frozen? ⟨w.heap.size + 1 + 1, k, none⟩ = false := fun o => (hO.alloc o).free k
      have hwr : IntKind.i64.wrap ((k : Int) - c) = (k : Int) - c := IntWalk.i64_in _ (by omega)
      generalize cs[k]'(by omega) = x at hx
      clear hA hR hO hB hf hsz
      go_wp2_with fail
      refine (bit_any _ _ _ ha).mono ?_
      rintro e w' ⟨rfl, rfl⟩
      go_wp2_with fail
      refine ⟨⟨k + 1, cs.setIfInBounds k (.bool (bitI a ((k : Int) - c))), by omega, by go_num, by simpa using HZ.out, HX.out.next (by have := HZ.out; omega), ?_, ?_, (HO.out.alloc _).put _ _, ?_⟩, by simp [intOf]; omega⟩
      · exact (HA.out.alloc _).far (by simp; omega) _
      · exact (HR.out.alloc _).far (by simp) _
      · exact (HB.out.alloc (by have := HA.out.lt; omega) _).setCell (by simp; omega) _
    · obtain rfl : k = 256 := by omega
      have hcell : ∀ i, i < 256 → wr.cell? ⟨w.heap.size + 1 + 1, i, none⟩ = some (.bool (bitI a ((i : Int) - c))) := fun i hi => by rw [hO.cell]; exact hf i hi
      have HC := Lib.hid hcell
      have HL := Lib.hid hO.lt
      clear hA hR hO hB hf hsz hcell hlt hk
      go_wp2_with fail
      refine (of_bits _ 256 256 (fun i => bitI a ((i : Int) - c)) _ (by omega) (by omega) HL.out HC.out).mono ?_
      rintro e w2 ⟨rfl, hb2⟩
      rw [HF.out]
      have hR2 := HR.out.after hb2
      have r0 := hR2.cell 0
      have r1 := hR2.cell 1
      have r2 := hR2.cell 2
      have r3 := hR2.cell 3
      simp at r0 r1 r2 r3
      have fr := hR2.free
      have HR2 := Lib.hid hR2
      have HB2 := Lib.hid (HB.out.trans (hb2.mono HB.out.size))
      clear hR2 hb2
      go_wp2_with fail
      refine bodyPost_ret (v := .agg #[.int .u64 (wd S 0 : Nat), .int .u64 (wd S 1 : Nat), .int .u64 (wd S 2 : Nat), .int .u64 (wd S 3 : Nat)]) ?_ rfl ⟨rfl, ?_⟩
      · have b0 := ((((HR2.out.put 0 (.int .u64 (wd S 0 : Nat))).put 1 (.int .u64 (wd S 1 : Nat))).put 2 (.int .u64 (wd S 2 : Nat))).put 3 (.int .u64 (wd S 3 : Nat)))
        have z0 := b0.cell 0
        have z1 := b0.cell 1
        have z2 := b0.cell 2
        have z3 := b0.cell 3
        simp at z0 z1 z2 z3
        simp [results, Try.results51, go_sem, z0, z1, z2, z3]
      · exact (((HB2.out.setCell (by simp) _).setCell (by simp) _).setCell (by simp) _).setCell (by simp) _
theorem bitsN_next (a k : Nat) : bitsN (a % 2 ^ (k + 1)) = if a.testBit k then k + 1 else bitsN (a % 2 ^ k) := by
  have hp := Nat.two_pow_pos k
  have e : a % 2 ^ (k + 1) = a % 2 ^ k + 2 ^ k * (a / 2 ^ k % 2) := by rw [Nat.pow_succ, Nat.mod_mul]
  have hl := Nat.mod_lt a hp
  rw [Nat.testBit_eq_decide_div_mod_eq]
  by_cases h : a / 2 ^ k % 2 = 1
  · rw [if_pos (by simp [h]), e, h, Nat.mul_one]
    exact bitsN_eq (by omega) (by rw [Nat.pow_succ]; omega)
  · have h0 : a / 2 ^ k % 2 = 0 := by omega
    rw [if_neg (by simp [h]), e, h0, Nat.mul_zero, Nat.add_zero]

set_option maxRecDepth 100000 in
set_option maxHeartbeats 2000000 in
theorem refBits_any (a : Nat) (w : World) (ha : a < w256) : Calls Try.prog 55 #[.agg #[.int .u64 (wd a 0 : Nat), .int .u64 (wd a 1 : Nat), .int .u64 (wd a 2 : Nat), .int .u64 (wd a 3 : Nat)]] w (BRet (.int .i64 (bitsN a : Nat)) w) := by
  have hle : ∀ k, k ≤ 256 → bitsN (a % 2 ^ k) ≤ 256 := fun k hk => Nat.le_trans (bitsN_le (Nat.mod_lt a (Nat.two_pow_pos k))) hk
  have HL := Lib.hid hle
  clear hle
  go_enter Try.func55, Try.ntmps55
  go_wp2_with fail
  go_loopw [3, 4] (fun n i wr => ∃ k : Nat, k ≤ 256 ∧ i = .int .i64 k ∧ n = .int .i64 (bitsN (a % 2 ^ k) : Nat) ∧ IsBlk wr w.heap.size 25 #[.int .u64 (wd a 0 : Nat), .int .u64 (wd a 1 : Nat), .int .u64 (wd a 2 : Nat), .int .u64 (wd a 3 : Nat)] ∧ Below w.heap.size w wr) (fun _ i _ => 256 - (intOf i).toNat)
  case atStart => exact ⟨0, by omega, rfl, by simp [Nat.mod_one, bitsN], by repeat' (first | with_reducible assumption | with_reducible refine IsBlk.drewN ?_ _ | with_reducible refine IsBlk.drew ?_ | with_reducible refine IsBlk.newAt _ _ ?_ | with_reducible refine IsBlk.alloc ?_ _ | with_reducible refine IsBlk.far ?_ ?_ _ | (simp; done) | (simp; omega)), by repeat' (first | exact Below.refl _ _ | refine bel_drewN ?_ _ | refine Below.drew ?_ | refine Below.alloc ?_ ?_ _ | refine Below.setCell ?_ ?_ _ | exact Nat.le_refl _ | (simp; done) | (simp; omega) | assumption)⟩
  case round =>
    obtain ⟨k, hk, rfl, rfl, hA, hB⟩ := hrel
    have HA := Lib.hid hA
    have HB := Lib.hid hB
    by_cases hlt : k < 256
    · have c0 := hA.cell 0
      have c1 := hA.cell 1
      have c2 := hA.cell 2
      have c3 := hA.cell 3
      simp at c0 c1 c2 c3
      have hlt' : (k : Int) < 256 := by omega
      clear hA hB
      have hn := bitsN_next a k
      have hb := bitI_nat a k
      generalize hX : bitsN (a % 2 ^ k) = X at *
      generalize hY : bitsN (a % 2 ^ (k + 1)) = Y at *
      have HY := Lib.hid hY
      clear hX hY
      cases ht : a.testBit k
      · rw [ht, if_neg (by simp)] at hn
        rw [ht] at hb
        have HN := Lib.hid hn
        have HT := Lib.hid hb
        clear hn hb ht
        go_wp2_with fail
        refine (bit_any _ _ _ ha).mono ?_
        rintro e w' ⟨rfl, rfl⟩
        rw [HT.out]
        go_wp2_with fail
        exact ⟨⟨k + 1, by omega, by go_num, by rw [HY.out, HN.out], HA.out.alloc _, HB.out.alloc (by have := HA.out.lt; omega) _⟩, by simp [intOf]; omega⟩
      · rw [ht, if_pos rfl] at hn
        rw [ht] at hb
        have HN := Lib.hid hn
        have HT := Lib.hid hb
        clear hn hb ht
        go_wp2_with fail
        refine (bit_any _ _ _ ha).mono ?_
        rintro e w' ⟨rfl, rfl⟩
        rw [HT.out]
        go_wp2_with fail
        exact ⟨⟨k + 1, by omega, by go_num, by rw [HY.out, HN.out]; go_num, HA.out.alloc _, HB.out.alloc (by have := HA.out.lt; omega) _⟩, by simp [intOf]; omega⟩
    · obtain rfl : k = 256 := by omega
      clear hA hB
      have hE : a % 2 ^ 256 = a := Nat.mod_eq_of_lt ha
      rw [hE]
      go_wp2_with fail
      go_ret
      exact ⟨rfl, HB.out⟩
end Go.Proofs.Ythmaijmjhfngpaa
