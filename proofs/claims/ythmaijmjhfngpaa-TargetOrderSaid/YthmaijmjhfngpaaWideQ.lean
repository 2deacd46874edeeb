/- The reference's order and bytes of numbers of four words. -/
import Derived.Test.YthmaijmjhfngpaaWideP
namespace Go.Proofs.Ythmaijmjhfngpaa
open Go.RowKit

theorem bit_b {a : Nat} (ha : a < w256) (i : Int) (w : World) : Calls Try.prog 52 #[.agg #[.int .u64 (wd a 0 : Nat), .int .u64 (wd a 1 : Nat), .int .u64 (wd a 2 : Nat), .int .u64 (wd a 3 : Nat)], .int .i64 i] w (BRet (.bool (bitI a i)) w) :=
  (bit_any a i w ha).mono fun _ _ ⟨h1, h2⟩ => ⟨h1, by subst h2; exact (Below.refl _ _).alloc (Nat.le_refl _) _⟩

theorem cmp_bit {a b j : Nat} (h : a / 2 ^ (j + 1) = b / 2 ^ (j + 1)) :
    (a.testBit j = true → b.testBit j = false → cmpN a b = 1) ∧ (a.testBit j = false → b.testBit j = true → cmpN a b = -1) ∧ (a.testBit j = b.testBit j → a / 2 ^ j = b / 2 ^ j) := by
  have hp : 0 < 2 ^ j := Nat.two_pow_pos j
  have ea : a / 2 ^ (j + 1) = a / 2 ^ j / 2 := by rw [Nat.pow_succ, Nat.div_div_eq_div_mul]
  have eb : b / 2 ^ (j + 1) = b / 2 ^ j / 2 := by rw [Nat.pow_succ, Nat.div_div_eq_div_mul]
  rw [ea, eb] at h
  have lt : ∀ x y : Nat, x / 2 ^ j < y / 2 ^ j → x < y := fun x y h => by
    rcases Nat.lt_or_ge x y with h1 | h1
    · exact h1
    · have := Nat.div_le_div_right (c := 2 ^ j) h1
      omega
  rw [Nat.testBit_eq_decide_div_mod_eq, Nat.testBit_eq_decide_div_mod_eq]
  refine ⟨fun h1 h2 => ?_, fun h1 h2 => ?_, fun h1 => ?_⟩
  · simp at h1 h2
    have : b < a := lt b a (by omega)
    unfold cmpN
    rw [if_neg (by omega), if_neg (by omega)]
  · simp at h1 h2
    have : a < b := lt a b (by omega)
    unfold cmpN
    rw [if_pos this]
  · have := decide_eq_decide.1 h1
    omega

set_option maxRecDepth 100000 in
set_option maxHeartbeats 4000000 in
theorem refCmp_any (a b : Nat) (w : World) (ha : a < w256) (hb : b < w256) : Calls Try.prog 37 #[.agg #[.int .u64 (wd a 0 : Nat), .int .u64 (wd a 1 : Nat), .int .u64 (wd a 2 : Nat), .int .u64 (wd a 3 : Nat)], .agg #[.int .u64 (wd b 0 : Nat), .int .u64 (wd b 1 : Nat), .int .u64 (wd b 2 : Nat), .int .u64 (wd b 3 : Nat)]] w (BRet (.int .i64 (cmpN a b)) w) := by
  have hab : a / 2 ^ 256 = b / 2 ^ 256 := by rw [show (2 : Nat) ^ 256 = w256 from rfl, Nat.div_eq_of_lt ha, Nat.div_eq_of_lt hb]
  have HAB := Lib.hid hab
  clear hab
  go_enter Try.func37, Try.ntmps37
  go_wp2_with fail
  go_loopw [5] (fun i wr => ∃ k : Nat, k ≤ 256 ∧ i = .int .i64 ((k : Int) - 1) ∧ a / 2 ^ k = b / 2 ^ k ∧ RB wr w.heap.size a ∧ RB wr (w.heap.size + 1) b ∧ Below w.heap.size w wr) (fun i _ => (intOf i + 1).toNat)
  case atStart => exact ⟨256, by omega, rfl, HAB.out, RB.of (by repeat' (first | with_reducible assumption | with_reducible refine IsBlk.drewN ?_ _ | with_reducible refine IsBlk.drew ?_ | with_reducible refine IsBlk.newAt _ _ ?_ | with_reducible refine IsBlk.alloc ?_ _ | with_reducible refine IsBlk.far ?_ ?_ _ | (simp; done) | (simp; omega))), RB.of (by repeat' (first | with_reducible assumption | with_reducible refine IsBlk.drewN ?_ _ | with_reducible refine IsBlk.drew ?_ | with_reducible refine IsBlk.newAt _ _ ?_ | with_reducible refine IsBlk.alloc ?_ _ | with_reducible refine IsBlk.far ?_ ?_ _ | (simp; done) | (simp; omega))), by repeat' (first | exact Below.refl _ _ | refine bel_drewN ?_ _ | refine Below.drew ?_ | refine Below.alloc ?_ ?_ _ | refine Below.setCell ?_ ?_ _ | exact Nat.le_refl _ | (simp; done) | (simp; omega) | assumption)⟩
  case round =>
    obtain ⟨k, hk, rfl, he, hA, hBB, hB⟩ := hrel
    by_cases hlt : 1 ≤ k
    · obtain ⟨j, rfl⟩ : ∃ j, k = j + 1 := ⟨k - 1, by omega⟩
      obtain ⟨k1, k2, k3⟩ := cmp_bit he
      have e1 : ((j + 1 : Nat) : Int) - 1 = (j : Int) := by omega
      have K1 := Lib.hid (bit_b ha (j : Int))
      have K2 := Lib.hid (bit_b hb (j : Int))
      rw [bitI_nat] at K1 K2
      rw [e1]
      have hj : (0 : Int) ≤ j := by omega
      have HST := Lib.hid (show ∀ w1' w2', (RB w1' w.heap.size a ∧ RB w1' (w.heap.size + 1) b ∧ Below w.heap.size w w1') → Below w1'.heap.size w1' w2' → (RB w2' w.heap.size a ∧ RB w2' (w.heap.size + 1) b ∧ Below w.heap.size w w2') from fun _ _ h hb => ⟨h.1.later hb, h.2.1.later hb, bel_on h.2.2 hb⟩)
      have H1 := Lib.hid k1
      have H2 := Lib.hid k2
      have H3 := Lib.hid k3
      have HIN := Lib.hid (And.intro hA (And.intro hBB hB))
      clear k1 k2 k3 he e1 hA hBB hB
      have hdec : IntKind.i64.wrap ((j : Int) - 1) = (j : Int) - 1 := IntWalk.i64_in _ (by omega)
      generalize hp1 : a.testBit j = p1 at *
      generalize hp2 : b.testBit j = p2 at *
      clear hp1 hp2
      cases p1 <;> cases p2
      all_goals
        go_wp2_with fail
        refine wp_region_seq (S := fun w' => RB w' w.heap.size a ∧ RB w' (w.heap.size + 1) b ∧ Below w.heap.size w w') (by kernel_rfl) (by kernel_rfl) ⟨HIN.out.1, HIN.out.2.1, HIN.out.2.2.drew⟩ ?_
        repeat (first
          | (refine SeqS.skip ?_ ?_; rfl; (try simp only [Act.put, List.setIfInBounds_toArray, List.set_cons_zero, List.set_cons_succ]))
          | (refine SeqS.take (v := ?_) ?_ ?_ ?_; rotate_left; rfl; (intro w hS; simp only [RB] at hS; go_simp; with_reducible rfl); (try simp only [Act.put, List.setIfInBounds_toArray, List.set_cons_zero, List.set_cons_succ]))
          | (refine SeqS.call (v := ?_) (f := ?_) (args := ?_) ?_ ?_ ?_ ?_; rotate_left 3; rfl; (intro w hS; simp only [RB] at hS; go_simp; (first | with_reducible rfl | (refine ⟨?_, ?_⟩ <;> with_reducible rfl))); (intro w hS; first | ((with_reducible refine (K1.out _).mono ?_); rintro e w' ⟨rfl, hb⟩; refine ⟨?_, HST.out _ _ hS hb⟩; with_reducible rfl) | ((with_reducible refine (K2.out _).mono ?_); rintro e w' ⟨rfl, hb⟩; refine ⟨?_, HST.out _ _ hS hb⟩; with_reducible rfl)); (try simp only [Act.put, List.setIfInBounds_toArray, List.set_cons_zero, List.set_cons_succ])))
        refine SeqS.done ?_
        rintro wz ⟨hA, hBB, hB⟩
        have HA := Lib.hid hA
        have HBB := Lib.hid hBB
        have HB := Lib.hid hB
        obtain ⟨r0, r1, r2, r3⟩ := hA
        clear hBB hB HIN
        go_wp2_with fail
      · exact ⟨⟨j, by omega, rfl, H3.out (by first | rfl | trivial), HA.out, HBB.out, HB.out⟩, by simp [intOf]⟩
      · refine (K1.out _).mono ?_
        rintro e w' ⟨rfl, hb'⟩
        go_wp2_with fail
        rw [H2.out (by first | rfl | trivial) (by first | rfl | trivial)]
        go_ret
        exact ⟨rfl, bel_on HB.out hb'⟩
      · refine (K1.out _).mono ?_
        rintro e w' ⟨rfl, hb'⟩
        go_wp2_with fail
        rw [H1.out (by first | rfl | trivial) (by first | rfl | trivial)]
        go_ret
        exact ⟨rfl, bel_on HB.out hb'⟩
      · exact ⟨⟨j, by omega, rfl, H3.out (by first | rfl | trivial), HA.out, HBB.out, HB.out⟩, by simp [intOf]⟩
    · obtain rfl : k = 0 := by omega
      have hz : cmpN a b = 0 := by
        simp at he
        subst he
        simp [cmpN]
      have HB := Lib.hid hB
      have HZ := Lib.hid hz
      clear hA hBB hB he hlt hk hz
      go_wp2_with fail
      rw [HZ.out]
      go_ret
      exact ⟨rfl, HB.out⟩

theorem bitsOf_byte {f : Nat → Nat} (hf : ∀ j, f j < 256) {q r : Nat} (hr : r < 8) : (bits .and .u8 (((f q : Nat) : Int) / 2 ^ r) 1 == 1) = bitsOf f (8 * q + r) := by
  have e2 : ((f q : Nat) : Int) / 2 ^ r = ((f q / 2 ^ r : Nat) : Int) := by
    have : (2 : Int) ^ r = ((2 ^ r : Nat) : Int) := by rw [Int.natCast_pow]; rfl
    rw [this]; rfl
  have hl : f q / 2 ^ r < 256 := Nat.lt_of_le_of_lt (Nat.div_le_self _ _) (hf q)
  have e3 : bitsOf f (8 * q + r) = (f q).testBit r := by
    unfold bitsOf
    rw [show (8 * q + r) / 8 = q from by omega, show (8 * q + r) % 8 = r from by omega]
  rw [e2, e3, Nat.testBit_eq_decide_div_mod_eq]
  have hb : bits .and .u8 ((f q / 2 ^ r : Nat) : Int) 1 = ((f q / 2 ^ r % 2 : Nat) : Int) := by
    generalize f q / 2 ^ r = x at hl
    show IntKind.u8.wrap ((BitVec.ofInt 8 (x : Int) &&& BitVec.ofInt 8 (1 : Int)).toNat : Int) = _
    have a1 : BitVec.ofInt 8 (x : Int) = BitVec.ofNat 8 x := by rw [BitVec.ofInt_natCast]
    have a2 : BitVec.ofInt 8 (1 : Int) = BitVec.ofNat 8 1 := by decide
    rw [a1, a2, BitVec.toNat_and, BitVec.toNat_ofNat, BitVec.toNat_ofNat, Nat.mod_eq_of_lt (by omega), show 1 % 2 ^ 8 = 1 from by decide, Nat.and_one_is_mod]
    simp only [IntKind.wrap, IntKind.bits, IntKind.signed]
    simp
    omega
  rw [hb]
  generalize f q / 2 ^ r = x
  by_cases h : x % 2 = 1
  · simp [h]
  · have : x % 2 = 0 := by omega
    simp [this]

set_option maxRecDepth 100000 in
set_option maxHeartbeats 4000000 in
theorem refFrom_any (f : Nat → Nat) (hf : ∀ j, f j < 256) (ch : Array Value) (hs : ch.size = 32) (hc : FillB f 32 ch) (w : World) : Calls Try.prog 38 #[.agg ch] w (BRet (.agg #[.int .u64 (wd (ofBits (bitsOf f) 256) 0 : Nat), .int .u64 (wd (ofBits (bitsOf f) 256) 1 : Nat), .int .u64 (wd (ofBits (bitsOf f) 256) 2 : Nat), .int .u64 (wd (ofBits (bitsOf f) 256) 3 : Nat)]) w) := by
  have hmk : ∀ w : World, (Instr.makeSlice 77 (.int .i64 256) (.int .i64 256)).run Try.prog w = .ok (.slice (some ⟨w.heap.size, 0, none⟩) 256 256) (w.alloc (.cells (falses 256) 4)) := make_bools 256 (.inl rfl)
  have HFB := Lib.hid (fun q r (hr : r < 8) => bitsOf_byte hf (q := q) hr)
  have HL := Lib.hid hf
  have HC := Lib.hid hc
  clear hf hc hs
  generalize bitsOf f = bf at *
  generalize hS : ofBits bf 256 = S at *
  have HS := Lib.hid hS
  clear hS
  go_enter Try.func38, Try.ntmps38
  go_wp2_with fail
  go_loopw [4] (fun i wr => ∃ (k : Nat) (cs : Array Value), k ≤ 256 ∧ i = .int .i64 k ∧ cs.size = 256 ∧ Fill bf k cs ∧ IsBlk wr w.heap.size 35 ch ∧
    IsBlk wr (w.heap.size + 1) 25 #[.int .u64 0, .int .u64 0, .int .u64 0, .int .u64 0] ∧ IsBlk wr (w.heap.size + 1 + 1) 4 cs ∧ Below w.heap.size w wr) (fun i _ => 256 - (intOf i).toNat)
  case atStart => exact ⟨0, falses 256, by omega, rfl, falses_size 256, fun i h => by omega, by repeat' (first | with_reducible assumption | with_reducible refine IsBlk.drewN ?_ _ | with_reducible refine IsBlk.drew ?_ | with_reducible refine IsBlk.newAt _ _ ?_ | with_reducible refine IsBlk.alloc ?_ _ | with_reducible refine IsBlk.far ?_ ?_ _ | (simp; done) | (simp; omega)), by repeat' (first | with_reducible assumption | with_reducible refine IsBlk.drewN ?_ _ | with_reducible refine IsBlk.drew ?_ | with_reducible refine IsBlk.newAt _ _ ?_ | with_reducible refine IsBlk.alloc ?_ _ | with_reducible refine IsBlk.far ?_ ?_ _ | (simp; done) | (simp; omega)), by repeat' (first | with_reducible assumption | with_reducible refine IsBlk.drewN ?_ _ | with_reducible refine IsBlk.drew ?_ | with_reducible refine IsBlk.newAt _ _ ?_ | with_reducible refine IsBlk.alloc ?_ _ | with_reducible refine IsBlk.far ?_ ?_ _ | (simp; done) | (simp; omega)), by repeat' (first | exact Below.refl _ _ | refine bel_drewN ?_ _ | refine Below.drew ?_ | refine Below.alloc ?_ ?_ _ | refine Below.setCell ?_ ?_ _ | exact Nat.le_refl _ | (simp; done) | (simp; omega) | assumption)⟩
  case round =>
    obtain ⟨k, cs, hk, rfl, hsz, hf, hA, hR, hO, hB⟩ := hrel
    have HA := Lib.hid hA
    have HR := Lib.hid hR
    have HO := Lib.hid hO
    have HB := Lib.hid hB
    have HX := Lib.hid hf
    have HZ := Lib.hid hsz
    by_cases hlt : k < 256
    · obtain ⟨q, r, hq, hr, rfl⟩ : ∃ q r, q < 32 ∧ r < 8 ∧ k = 8 * q + r := ⟨k / 8, k % 8, by omega, by omega, by omega⟩
      have hcell : wr.cell? ⟨w.heap.size, q, none⟩ = some (.int .u8 (f q : Nat)) := by rw [hA.cell]; exact HC.out q hq
      have h1 : ((8 * q + r : Nat) : Int) / 8 = q := by omega
      have h2 : ((8 * q + r : Nat) : Int) % 8 = r := by omega
      have hw : IntKind.u64.wrap (r : Int) = r := IntWalk.u64_in _ (by omega)
      have hlt' : ((8 * q + r : Nat) : Int) < 256 := by omega
      have hq' : (q : Int) < 32 := by omega
      have hx : wr.cell? ⟨w.heap.size + 1 + 1, 8 * q + r, none⟩ = some (cs[8 * q + r]'(by omega)) := by rw [hO.cell, Array.getElem?_eq_getElem]
      have hfr := hO.free (8 * q + r)
      have hv := HFB.out q r hr
      have hb := HL.out q
      generalize cs[8 * q + r]'(by omega) = x at hx
      generalize hK : 8 * q + r = K at *
      generalize f q = y at *
      clear hA hR hO hB hf hsz hK
      go_wp2_with fail
      refine ⟨⟨K + 1, cs.setIfInBounds K (.bool (bf K)), by omega, by go_num, by simpa using HZ.out, HX.out.next (by have := HZ.out; omega), HA.out.far (by simp; omega) _, HR.out.far (by simp) _, HO.out.put _ _, HB.out.setCell (by simp; omega) _⟩, by simp [intOf]; omega⟩
    · obtain rfl : k = 256 := by omega
      have hcell : ∀ i, i < 256 → wr.cell? ⟨w.heap.size + 1 + 1, i, none⟩ = some (.bool (bf i)) := fun i hi => by rw [hO.cell]; exact hf i hi
      have HC2 := Lib.hid hcell
      have HL2 := Lib.hid hO.lt
      clear hA hR hO hB hf hsz hcell hlt hk
      go_wp2_with fail
      refine (of_bits _ 256 256 bf _ (by omega) (by omega) HL2.out HC2.out).mono ?_
      rintro e w2 ⟨rfl, hb2⟩
      rw [HS.out]
      have hR2 := HR.out.after hb2
      have r0 := hR2.cell 0
      have r1 := hR2.cell 1
      have r2 := hR2.cell 2
      have r3 := hR2.cell 3
      simp at r0 r1 r2 r3
      have frr := hR2.free
      have HR2 := Lib.hid hR2
      have HB2 := Lib.hid (HB.out.trans (hb2.mono HB.out.size))
      clear hR2 hb2
      go_wp2_with fail
      refine bodyPost_ret (v := (.agg #[.int .u64 (wd (S) 0 : Nat), .int .u64 (wd (S) 1 : Nat), .int .u64 (wd (S) 2 : Nat), .int .u64 (wd (S) 3 : Nat)])) ?_ rfl ⟨rfl, ?_⟩
      · have b0 := ((((HR2.out.put 0 (.int .u64 (wd (S) 0 : Nat))).put 1 (.int .u64 (wd (S) 1 : Nat))).put 2 (.int .u64 (wd (S) 2 : Nat))).put 3 (.int .u64 (wd (S) 3 : Nat)))
        have z0 := b0.cell 0
        have z1 := b0.cell 1
        have z2 := b0.cell 2
        have z3 := b0.cell 3
        simp at z0 z1 z2 z3
        simp [results, Try.results38, go_sem, z0, z1, z2, z3]
      · exact (((HB2.out.setCell (by first | (simp; done) | (simp; omega)) _).setCell (by first | (simp; done) | (simp; omega)) _).setCell (by first | (simp; done) | (simp; omega)) _).setCell (by first | (simp; done) | (simp; omega)) _

theorem byte_same {a k j : Nat} (h : a.testBit k = false ∨ j ≠ k / 8) : byN (a % 2 ^ (k + 1)) j = byN (a % 2 ^ k) j := by
  apply Nat.eq_of_testBit_eq
  intro t
  rw [byN_bit, byN_bit, Nat.testBit_mod_two_pow, Nat.testBit_mod_two_pow]
  by_cases ht : t < 8
  · simp only [ht, decide_true, Bool.true_and]
    by_cases he : 8 * j + t = k
    · rcases h with h | h
      · rw [he, h]; simp
      · omega
    · by_cases h2 : 8 * j + t < k
      · have : 8 * j + t < k + 1 := by omega
        simp [h2, this]
      · have : ¬ 8 * j + t < k + 1 := by omega
        simp [h2, this]
  · simp [ht]
theorem byte_set {a q r : Nat} (hr : r < 8) (h : a.testBit (8 * q + r) = true) :
    bits .or .u8 ((byN (a % 2 ^ (8 * q + r)) q : Nat) : Int) (IntKind.u8.wrap (2 ^ r)) = ((byN (a % 2 ^ (8 * q + r + 1)) q : Nat) : Int) := by
  have e : (2 : Int) ^ r = ((2 ^ r : Nat) : Int) := by rw [Int.natCast_pow]; rfl
  have hl : 2 ^ r ≤ 2 ^ 7 := Nat.pow_le_pow_right (by omega) (by omega)
  have h7 : (2 : Nat) ^ 7 = 128 := by decide
  have hwr : IntKind.u8.wrap ((2 ^ r : Nat) : Int) = ((2 ^ r : Nat) : Int) := by
    generalize 2 ^ r = z at *
    simp only [IntKind.wrap, IntKind.bits, IntKind.signed]
    simp
    omega
  have key : byN (a % 2 ^ (8 * q + r)) q ||| 2 ^ r = byN (a % 2 ^ (8 * q + r + 1)) q := by
    apply Nat.eq_of_testBit_eq
    intro t
    rw [Nat.testBit_or, byN_bit, byN_bit, Nat.testBit_mod_two_pow, Nat.testBit_mod_two_pow, Nat.testBit_two_pow]
    by_cases ht : t < 8
    · simp only [ht, decide_true, Bool.true_and]
      by_cases he : t = r
      · subst he; simp [h]
      · have h3 : ¬ r = t := by omega
        by_cases h2 : 8 * q + t < 8 * q + r
        · have : 8 * q + t < 8 * q + r + 1 := by omega
          simp [h3, h2, this]
        · have : ¬ 8 * q + t < 8 * q + r + 1 := by omega
          simp [h3, h2, this]
    · have h3 : ¬ r = t := by omega
      simp [ht, h3]
  rw [e, hwr, ← key]
  have h1 := byN_lt (a % 2 ^ (8 * q + r)) q
  have h2 : byN (a % 2 ^ (8 * q + r)) q ||| 2 ^ r < 2 ^ 8 := Nat.or_lt_two_pow (by omega) (by omega)
  generalize byN (a % 2 ^ (8 * q + r)) q = x at *
  generalize 2 ^ r = z at *
  show IntKind.u8.wrap ((BitVec.ofInt 8 (x : Int) ||| BitVec.ofInt 8 (z : Int)).toNat : Int) = _
  rw [BitVec.ofInt_natCast, BitVec.ofInt_natCast, BitVec.toNat_or, BitVec.toNat_ofNat, BitVec.toNat_ofNat, Nat.mod_eq_of_lt (by omega), Nat.mod_eq_of_lt (by omega)]
  generalize x ||| z = y at *
  simp only [IntKind.wrap, IntKind.bits, IntKind.signed]
  simp
  omega
theorem bytesV_size (a : Nat) : (bytesV a).size = 32 := by simp [bytesV]
theorem bytesV_at (a : Nat) {j : Nat} (hj : j < 32) : (bytesV a)[j]? = some (.int .u8 (byN a j : Nat)) := by simp [bytesV, hj]
theorem bytesV_set {x y q : Nat} (_hq : q < 32) (h : ∀ j, j ≠ q → byN y j = byN x j) : (bytesV x).setIfInBounds q (.int .u8 (byN y q : Nat)) = bytesV y := by
  apply Array.ext_getElem?
  intro i
  rw [Array.getElem?_setIfInBounds]
  by_cases hi : i < 32
  · by_cases he : q = i
    · subst he; rw [if_pos rfl, if_pos (by rw [bytesV_size]; exact hi), bytesV_at y hi]
    · rw [if_neg he, bytesV_at x hi, bytesV_at y hi, h i (Ne.symm he)]
  · rw [Array.getElem?_eq_none (show (bytesV y).size ≤ i by rw [bytesV_size]; omega)]
    split
    · split
      · rename_i h1 h2; rw [bytesV_size] at h2; omega
      · rfl
    · exact Array.getElem?_eq_none (by rw [bytesV_size]; omega)
theorem bytesV_same {x y : Nat} (h : ∀ j, byN y j = byN x j) : bytesV y = bytesV x := by
  unfold bytesV
  simp only [h]
theorem bytesV_oneCell (a : Nat) : (bytesV a).all (·.oneCell') = true := by
  apply Array.all_eq_true_iff_forall_mem.2
  intro v hv
  simp [bytesV] at hv
  obtain ⟨j, _, rfl⟩ := hv
  rfl
theorem hash_info (a : Nat) : (Try.prog.info? 35).map (·.size) = some (bytesV a).size := by rw [bytesV_size]; kernel_rfl

set_option maxRecDepth 100000 in
set_option maxHeartbeats 4000000 in
theorem refTo_any (a : Nat) (w : World) (ha : a < w256) : Calls Try.prog 34 #[.agg #[.int .u64 (wd a 0 : Nat), .int .u64 (wd a 1 : Nat), .int .u64 (wd a 2 : Nat), .int .u64 (wd a 3 : Nat)]] w (BRet (.agg (bytesV a)) w) := by
  go_enter Try.func34, Try.ntmps34
  go_wp2_with fail
  go_loopw [4] (fun i wr => ∃ (k : Nat), k ≤ 256 ∧ i = .int .i64 k ∧ IsBlk wr w.heap.size 25 #[.int .u64 (wd a 0 : Nat), .int .u64 (wd a 1 : Nat), .int .u64 (wd a 2 : Nat), .int .u64 (wd a 3 : Nat)] ∧
    IsBlk wr (w.heap.size + 1) 35 (bytesV 0) ∧ IsBlk wr (w.heap.size + 1 + 1) 35 (bytesV (a % 2 ^ k)) ∧ Below w.heap.size w wr) (fun i _ => 256 - (intOf i).toNat)
  case atStart =>
    refine ⟨0, by omega, rfl, by repeat' (first | with_reducible assumption | with_reducible refine IsBlk.drewN ?_ _ | with_reducible refine IsBlk.drew ?_ | with_reducible refine IsBlk.newAt _ _ ?_ | with_reducible refine IsBlk.alloc ?_ _ | with_reducible refine IsBlk.far ?_ ?_ _ | (simp; done) | (simp; omega)), ?_, ?_, by repeat' (first | exact Below.refl _ _ | refine bel_drewN ?_ _ | refine Below.drew ?_ | refine Below.alloc ?_ ?_ _ | refine Below.setCell ?_ ?_ _ | exact Nat.le_refl _ | (simp; done) | (simp; omega) | assumption)⟩
    · exact (IsBlk.newAt _ _ (by simp)).alloc _
    · rw [Nat.pow_zero, Nat.mod_one]; exact IsBlk.newAt _ _ (by simp)
  case round =>
    obtain ⟨k, hk, rfl, hA, hR, hO, hB⟩ := hrel
    have HA := Lib.hid hA
    have HR := Lib.hid hR
    have HO := Lib.hid hO
    have HB := Lib.hid hB
    by_cases hlt : k < 256
    · obtain ⟨q, r, hq, hr, rfl⟩ : ∃ q r, q < 32 ∧ r < 8 ∧ k = 8 * q + r := ⟨k / 8, k % 8, by omega, by omega, by omega⟩
      have c0 := hA.cell 0
      have c1 := hA.cell 1
      have c2 := hA.cell 2
      have c3 := hA.cell 3
      simp at c0 c1 c2 c3
      have frc := hA.free
      have h1 : ((8 * q + r : Nat) : Int) / 8 = q := by omega
      have h2 : ((8 * q + r : Nat) : Int) % 8 = r := by omega
      have hw : IntKind.u64.wrap (r : Int) = r := IntWalk.u64_in _ (by omega)
      have hlt' : ((8 * q + r : Nat) : Int) < 256 := by omega
      have hq' : (q : Int) < 32 := by omega
      have hb := bitI_nat a (8 * q + r)
      have hx : ∀ o, (wr.alloc o).cell? ⟨w.heap.size + 1 + 1, q, none⟩ = some (.int .u8 (byN (a % 2 ^ (8 * q + r)) q : Nat)) := fun o => by rw [(hO.alloc o).cell]; exact bytesV_at _ hq
      have hfr : ∀ o, (wr.alloc o).frozen? ⟨w.heap.size + 1 + 1, q, none⟩ = false := fun o => (hO.alloc o).free q
      cases hp : a.testBit (8 * q + r)
      · have HS := Lib.hid (bytesV_same fun j => byte_same (a := a) (k := 8 * q + r) (j := j) (.inl hp))
        rw [hp] at hb
        have HBI := Lib.hid hb
        generalize 8 * q + r = K at *
        clear hA hR hO hB hp hb frc hx hfr
        go_wp2_with fail
        refine (bit_any _ _ _ ha).mono ?_
        rintro e w' ⟨rfl, rfl⟩
        rw [HBI.out]
        go_wp2_with fail
        exact ⟨⟨K + 1, by omega, by go_num, HA.out.alloc _, HR.out.alloc _, by rw [HS.out]; exact HO.out.alloc _, HB.out.alloc (by have := HA.out.lt; omega) _⟩, by simp [intOf]; omega⟩
      · have hv : bits .or .u8 ((byN (a % 2 ^ (8 * q + r)) q : Nat) : Int) ((2 : Int) ^ r % 256) = ((byN (a % 2 ^ (8 * q + r + 1)) q : Nat) : Int) := byte_set hr hp
        have HS := Lib.hid (bytesV_set (x := a % 2 ^ (8 * q + r)) (y := a % 2 ^ (8 * q + r + 1)) hq fun j hj => byte_same (.inr (by omega)))
        rw [hp] at hb
        have HBI := Lib.hid hb
        have hbx := byN_lt (a % 2 ^ (8 * q + r)) q
        generalize 8 * q + r = K at *
        clear hA hR hO hB hp hb frc
        generalize byN (a % 2 ^ K) q = x at *
        generalize byN (a % 2 ^ (K + 1)) q = y at *
        go_wp2_with fail
        refine (bit_any _ _ _ ha).mono ?_
        rintro e w' ⟨rfl, rfl⟩
        rw [HBI.out]
        go_wp2_with fail
        exact ⟨⟨K + 1, by omega, by go_num, (HA.out.alloc _).far (by simp; omega) _, (HR.out.alloc _).far (by simp) _, by rw [← HS.out]; exact (HO.out.alloc _).put _ _, (HB.out.alloc (by have := HA.out.lt; omega) _).setCell (by simp; omega) _⟩, by simp [intOf]; omega⟩
    · obtain rfl : k = 256 := by omega
      have hE : a % 2 ^ 256 = a := Nat.mod_eq_of_lt ha
      rw [hE] at hO
      have hr : wr.rangeAt (w.heap.size + 1 + 1) 0 (bytesV a).toList := fun j v h => by
        rw [Nat.zero_add, hO.cell]; simpa using h
      have ht : wr.there (w.heap.size + 1) 0 (bytesV a).size := fun j hj => by
        rw [bytesV_size] at hj
        rw [Nat.zero_add, hR.cell, bytesV_at 0 hj]; exact ⟨rfl, hR.free j⟩
      have h1 := bytesV_oneCell a
      have hz := hash_info a
      clear hO HO hA hR hB hlt hk hE
      generalize bytesV a = bs at *
      go_upto_region 7 with (fail)
      refine wp_region_list ?_
      refine wpList_load_mid rfl 35 _ rfl (w.heap.size + 1 + 1) 0 rfl bs.toList _ hr Try.underlying35 rfl (by simpa using hz) ?_
      refine wpList_store_mid rfl 35 _ _ rfl (w.heap.size + 1) 0 bs rfl rfl ht hz h1 ?_
      have hr2 := World.rangeAt_setCells_same wr _ 0 _ (by rw [Array.length_toList]; exact ht)
      have hlv : (loadVar 35 ⟨w.heap.size + 1, 0, none⟩).run Try.prog (wr.setCells (w.heap.size + 1) 0 bs.toList) = .ok (.agg bs) (wr.setCells (w.heap.size + 1) 0 bs.toList) := by
        simpa using run_loadVar_mid (P := Try.prog) _ _ 0 35 _ _ hr2 Try.underlying35 rfl (by simpa using hz)
      have hB2 : Below w.heap.size w (wr.setCells (w.heap.size + 1) 0 bs.toList) := bel_setCells (by omega) _ _ HB.out
      generalize wr.setCells (w.heap.size + 1) 0 bs.toList = wz at *
      clear hr2 hr ht h1 hz HB HA HR
      go_wp2_with fail
      exact bodyPost_ret (v := .agg bs) (by simp [results, Try.results34, asAddr, Act.put, hlv]) rfl ⟨rfl, hB2⟩

theorem in_bytes32 {H : Type} {enc : TypeId × Value → H} {W : World} {v : Value} {d : DataW H} {p : List MemPlace} {base : Nat} (h : DataW.Trod enc Try.prog W 0 (fun _ => true) true 35 v d p) (o : Value.okWide Try.prog W .any base 35 v) :
    ∃ (f : Nat → Nat) (cs : Array Value), v = .agg cs ∧ cs.size = 32 ∧ FillB f 32 cs ∧ (∀ j, f j < 256) ∧ cs.all (·.oneCell') = true := by
  obtain ⟨zs, hl, rfl, hz⟩ := in_array Try.underlying35 Try.underlying5 (by kernel_rfl) (by kernel_rfl) h o
  refine ⟨fun j => (zs.getD j 0).toNat % 256, _, rfl, by simpa using hl, fun i hi => ?_, fun j => Nat.mod_lt _ (by decide), ?_⟩
  · have hm : zs[i] ∈ zs := List.getElem_mem (by omega)
    have hb := wf_u8 (hz _ hm)
    have e : zs.getD i 0 = zs[i] := by rw [List.getD_eq_getElem?_getD, List.getElem?_eq_getElem (by omega)]; rfl
    simp only [e]
    have e2 : ((zs[i].toNat % 256 : Nat) : Int) = zs[i] := by omega
    rw [e2]
    simp [List.getElem?_eq_getElem (show i < zs.length by omega)]
  · apply Array.all_eq_true_iff_forall_mem.2
    intro v hv
    simp at hv
    obtain ⟨j, _, rfl⟩ := hv
    rfl

theorem hash_load {cs : Array Value} (hs : cs.size = 32) {w : World} {g : Nat} (h : IsBlk w g 35 cs) : (loadVar 35 ⟨g, 0, none⟩).run Try.prog w = .ok (.agg cs) w := by
  have hr : w.rangeAt g 0 cs.toList := fun j v hv => by rw [Nat.zero_add, h.cell]; simpa using hv
  have hz : (Try.prog.info? 35).map (·.size) = some cs.size := by rw [hs]; kernel_rfl
  simpa using run_loadVar_mid (P := Try.prog) _ _ 0 35 _ _ hr Try.underlying35 rfl (by simpa using hz)
theorem hash_eq (a : Nat) (w : World) : (binOp .eql 35 (.agg (bytesV a)) (.agg (bytesV a))).run Try.prog w = .ok (.bool true) w := by
  have e : bytesV a = (((List.range 32).map fun j => ((byN a j : Nat) : Int)).map (Value.int .u8)).toArray := by simp [bytesV]
  rw [e]
  have := run_eql_nums w 35 5 32 .u8 Try.underlying35 Try.underlying5 (fun _ => by kernel_rfl) ((List.range 32).map fun j => ((byN a j : Nat) : Int)) ((List.range 32).map fun j => ((byN a j : Nat) : Int)) (by simp) (by simp)
  rw [this]
  simp
end Go.Proofs.Ythmaijmjhfngpaa
