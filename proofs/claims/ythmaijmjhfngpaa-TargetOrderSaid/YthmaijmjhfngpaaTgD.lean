/- Compact forms: the reference's walk. -/
import Derived.Test.YthmaijmjhfngpaaTgC
import Derived.Deep.MidRow
namespace Go.Proofs.Ythmaijmjhfngpaa
open Go.RowKit

/-- The bytes that a number has. -/
def numB (a : Nat) : Nat := (bitsN a + 7) / 8
theorem numB_le {a : Nat} (ha : a < w256) : numB a ≤ 32 := by have := bits_le ha; unfold numB; omega
theorem byte_above {a p : Nat} (h : numB a ≤ p) : byN a p = 0 := by
  unfold byN
  have h1 : bitsN a ≤ 8 * p := by unfold numB at h; omega
  rw [Nat.div_eq_of_lt (Nat.lt_of_lt_of_le (bitsN_lt a) (Nat.pow_le_pow_right (by omega) h1))]
theorem byte_top {a p : Nat} (h : numB a = p + 1) : byN a p ≠ 0 := by
  have h0 : a ≠ 0 := by rintro rfl; rw [numB, bitsN_zero] at h; omega
  obtain ⟨b, hb, h1, h2⟩ := bitsN_spec h0
  unfold numB at h
  unfold byN
  have h3 : 2 ^ (8 * p) ≤ a := Nat.le_trans (Nat.pow_le_pow_right (by omega) (by omega)) h1
  have h4 : a < 2 ^ (8 * p) * 256 := by
    refine Nat.lt_of_lt_of_le h2 ?_
    rw [show (256 : Nat) = 2 ^ 8 from by decide, ← Nat.pow_add]
    exact Nat.pow_le_pow_right (by omega) (by omega)
  have h5 : 1 ≤ a / 2 ^ (8 * p) := by rw [Nat.le_div_iff_mul_le (Nat.two_pow_pos _)]; omega
  have h6 : a / 2 ^ (8 * p) < 256 := Nat.div_lt_of_lt_mul h4
  show a / 2 ^ (8 * p) % 2 ^ 8 ≠ 0
  have p8 : (2 : Nat) ^ 8 = 256 := by decide
  rw [p8]
  omega
/-- The highest three bytes, put together. -/
def cB (a i : Nat) : Nat := if i ≤ numB a then byN a (numB a - i) else 0
theorem cB_lt (a i : Nat) : cB a i < 256 := by
  unfold cB; split
  · exact byN_lt _ _
  · decide
theorem byte_three (a y : Nat) (h : a < 2 ^ (8 * (y + 3))) : byN a (y + 2) * 65536 + byN a (y + 1) * 256 + byN a y = a / 2 ^ (8 * y) := by
  have e1 : a / 2 ^ (8 * (y + 1)) = a / 2 ^ (8 * y) / 256 := by rw [show 8 * (y + 1) = 8 * y + 8 from by omega, Nat.pow_add, ← Nat.div_div_eq_div_mul]
  have e2 : a / 2 ^ (8 * (y + 2)) = a / 2 ^ (8 * y) / 65536 := by rw [show 8 * (y + 2) = 8 * y + 16 from by omega, Nat.pow_add, ← Nat.div_div_eq_div_mul]
  have h2 : a / 2 ^ (8 * y) < 16777216 := by
    apply Nat.div_lt_of_lt_mul
    rw [show 8 * (y + 3) = 8 * y + 24 from by omega, Nat.pow_add] at h
    exact h
  show a / 2 ^ (8 * (y + 2)) % 2 ^ 8 * 65536 + a / 2 ^ (8 * (y + 1)) % 2 ^ 8 * 256 + a / 2 ^ (8 * y) % 2 ^ 8 = _
  rw [e1, e2, show (2 : Nat) ^ 8 = 256 from by decide]
  generalize a / 2 ^ (8 * y) = x at *
  omega
theorem top_bytes {a : Nat} (ha : a < w256) : cB a 1 * 65536 + cB a 2 * 256 + cB a 3 = shiftN a (-8 * ((numB a : Int) - 3)) := by
  have hb := bitsN_lt a
  have hle : bitsN a ≤ 8 * numB a := by unfold numB; omega
  have hlt : a < 2 ^ (8 * numB a) := Nat.lt_of_lt_of_le hb (Nat.pow_le_pow_right (by omega) hle)
  have h256 := bits_le ha
  unfold cB
  generalize numB a = z at *
  by_cases h3 : 3 ≤ z
  · obtain ⟨y, rfl⟩ : ∃ y, z = y + 3 := ⟨z - 3, by omega⟩
    rw [if_pos (by omega), if_pos (by omega), if_pos (by omega), show -8 * (((y + 3 : Nat) : Int) - 3) = -((8 * y : Nat) : Int) from by omega, shift_down ha, ← byte_three a y hlt]
    rfl
  · have hz : z = 0 ∨ z = 1 ∨ z = 2 := by omega
    rcases hz with rfl | rfl | rfl
    · have : a = 0 := by simpa using hlt
      subst this
      rw [shiftN_of_zero]; rfl
    · rw [if_pos (by omega), if_neg (by omega), if_neg (by omega), show -8 * (((1 : Nat) : Int) - 3) = ((16 : Nat) : Int) from by decide, shift_up (by omega)]
      have : byN a 0 = a := by
        unfold byN
        simp at hlt ⊢
        omega
      rw [show 1 - 1 = 0 from rfl, this, show (2 : Nat) ^ 16 = 65536 from by decide, Nat.zero_mul]
      exact Nat.add_zero _
    · rw [if_pos (by omega), if_pos (by omega), if_neg (by omega), show -8 * (((2 : Nat) : Int) - 3) = ((8 : Nat) : Int) from by decide, shift_up (by omega)]
      have h0 : byN a 1 * 256 + byN a 0 = a := by
        unfold byN
        simp at hlt ⊢
        omega
      rw [show 2 - 1 = 1 from rfl, show 2 - 2 = 0 from rfl, show (2 : Nat) ^ 8 = 256 from by decide, Nat.add_zero]
      have e : byN a 1 * 65536 + byN a 0 * 256 = (byN a 1 * 256 + byN a 0) * 256 := by rw [Nat.add_mul, Nat.mul_assoc]
      rw [e, h0]

theorem IsBlk.all32 {w : World} {g a : Nat} (h : IsBlk w g 35 (bytesV a)) {j : Nat} (hj : j < 32) : w.cell? ⟨g, j, none⟩ = some (.int .u8 (byN a j : Nat)) := by rw [h.cell, bytesV_at a hj]

/-- The bytes put together, one by one. -/
def mB (a : Nat) : Nat → Nat
  | 0 => 0
  | k + 1 => 256 * mB a k + cB a (k + 1)
theorem mB_lt (a : Nat) : ∀ k, k ≤ 3 → mB a k < 16777216
  | 0, _ => by show 0 < _; decide
  | 1, _ => by have := cB_lt a 1; show 256 * 0 + cB a 1 < _; omega
  | 2, _ => by have := cB_lt a 1; have := cB_lt a 2; show 256 * (256 * 0 + cB a 1) + cB a 2 < _; omega
  | 3, _ => by have := cB_lt a 1; have := cB_lt a 2; have := cB_lt a 3; show 256 * (256 * (256 * 0 + cB a 1) + cB a 2) + cB a 3 < _; omega
theorem mB_step (a k : Nat) (h : k ≤ 2) : 256 * mB a k < 16777216 ∧ mB a (k + 1) < 16777216 := by
  have h1 := mB_lt a (k + 1) (by omega)
  have h2 : mB a (k + 1) = 256 * mB a k + cB a (k + 1) := rfl
  omega
theorem compact_fin {a : Nat} (ha : a < w256) : mB a 3 < 16777216 ∧ (8388608 ≤ mB a 3 → (numB a + 1) * 16777216 + mB a 3 / 256 = cN a) ∧ (mB a 3 < 8388608 → numB a * 16777216 + mB a 3 = cN a) := by
  have hm : mB a 3 = shiftN a (-8 * ((numB a : Int) - 3)) := by
    rw [← top_bytes ha]
    show 256 * (256 * (256 * 0 + cB a 1) + cB a 2) + cB a 3 = _
    rw [Nat.mul_zero, Nat.zero_add, Nat.mul_add, ← Nat.mul_assoc, Nat.mul_comm _ (cB a 1), Nat.mul_comm 256 (cB a 2)]
  refine ⟨mB_lt a 3 (by omega), ?_, ?_⟩
  · intro h
    by_cases h0 : a = 0
    · subst h0; rw [hm, shiftN_of_zero] at h; exact absurd h (by decide)
    · obtain ⟨_, h2, h3, h4⟩ := first_top ha h0
      rw [hm] at h ⊢
      have h8 := h2.1 h
      have := h3 h8
      unfold cN
      rw [← this.2, ← this.1]; rfl
  · intro h
    by_cases h0 : a = 0
    · subst h0; rw [hm, shiftN_of_zero, numB, bitsN_zero]
      simp [cN, sizB, topB, shiftN_of_zero]
    · obtain ⟨_, h2, h3, h4⟩ := first_top ha h0
      rw [hm] at h ⊢
      have h8 : bitsN a % 8 ≠ 0 := fun h8 => by have := h2.2 h8; unfold numB at h; omega
      have := h4 h8
      unfold cN
      rw [← this.2, ← this.1]; rfl
theorem there_new (w : World) (c : Array Value) (t : TypeId) (n : Nat) (h : c.size = n) : (w.alloc (.cells c t)).there w.heap.size 0 n := fun j hj => by
  have hb := IsBlk.new w t c
  rw [Nat.zero_add, hb.cell, Array.getElem?_eq_getElem (by omega)]
  exact ⟨rfl, hb.free j⟩
theorem size_setCells' (b : Nat) : ∀ (vs : List Value) (o : Nat) (w : World), (w.setCells b o vs).heap.size = w.heap.size
  | [], _, _ => rfl
  | v :: vs, o, w => (size_setCells' b vs (o + 1) _).trans (by simp)
theorem wpList_store_loc {P : Program} {ops : Array Oper} {rest : List Oper} {op : Oper} {a : Act} {w : World} {Q : Exit → Act → World → Prop} (hgd : op.guard = none) (ty : TypeId) (x y : Operand) (ho : op.op = .store ty x y)
    (c : Array Value) (cs : List Value) (hx : a.eval x = .pointer (some ⟨w.heap.size, 0, none⟩)) (hy : a.eval y = .agg cs.toArray) (hc : c.size = cs.length) (hi : (P.info? ty).map (·.size) = some cs.length) (h1 : ∀ v ∈ cs, v.oneCell' = true)
    (h : ∀ wz, wz.rangeAt w.heap.size 0 cs → w.heap.size < wz.heap.size → Below w.heap.size w wz → wpList P ops Q rest (a.put op.dst undef) wz) : wpList P ops Q (op :: rest) a (w.alloc (.cells c ty)) := by
  have ht := there_new w c ty cs.length hc
  refine wpList_store_mid hgd ty x y ho w.heap.size 0 cs.toArray hx hy (by simpa using ht) (by simpa using hi) (all_oneCell_toArray h1) ?_
  have hb : Below w.heap.size w ((w.alloc (.cells c ty)).setCells w.heap.size 0 cs) := bel_setCells (Nat.le_refl _) _ _ ((Below.refl _ _).alloc (Nat.le_refl _) _)
  have hr := World.rangeAt_setCells_same (w.alloc (.cells c ty)) w.heap.size 0 cs ht
  have hsz : ((w.alloc (.cells c ty)).setCells w.heap.size 0 cs).heap.size = (w.alloc (.cells c ty)).heap.size := size_setCells' _ _ _ _
  exact h _ hr (by rw [hsz]; simp) hb
theorem IsBlk.there0 {w : World} {g n : Nat} {t : TypeId} {cs : Array Value} (h : IsBlk w g t cs) (hs : cs.size = n) : w.there g 0 n := fun j hj => by
  rw [Nat.zero_add, h.cell, Array.getElem?_eq_getElem (by omega)]
  exact ⟨rfl, h.free j⟩

set_option maxRecDepth 100000 in
set_option maxHeartbeats 8000000 in
theorem refCompact_any (a : Nat) (w : World) (ha : a < w256) : Calls Try.prog 13 #[.agg #[.int .u64 (wd a 0 : Nat), .int .u64 (wd a 1 : Nat), .int .u64 (wd a 2 : Nat), .int .u64 (wd a 3 : Nat)]] w (BRet (.int .u32 (cN a : Nat)) w) := by
  have KT := Lib.hid (fun w => refTo_any a w ha)
  have hz := hash_info a
  have h1 := bytesV_oneCell a
  have hat : ∀ j, j < 32 → (bytesV a).toList[j]? = some (.int .u8 (byN a j : Nat)) := fun j hj => by
    rw [Array.getElem?_toList]; exact bytesV_at a hj
  have hln : (bytesV a).toList.length = 32 := by rw [Array.length_toList]; exact bytesV_size a
  have h1' : ∀ v ∈ (bytesV a).toList, v.oneCell' = true := fun v hv => Array.all_eq_true_iff_forall_mem.1 h1 v (by simpa using hv)
  have hbt : bytesV a = (bytesV a).toList.toArray := by simp
  rw [← Array.length_toList] at hz
  rw [hbt] at KT
  generalize (bytesV a).toList = bs at *
  clear hbt h1
  go_enter Try.func13, Try.ntmps13
  go_wp2_with fail
  refine (KT.out _).mono ?_
  rintro e w1 ⟨rfl, hb1⟩
  have HB1 := Lib.hid ((show Below w.heap.size w _ from by repeat' (first | exact Below.refl _ _ | refine bel_drewN ?_ _ | refine Below.drew ?_ | refine Below.alloc ?_ ?_ _ | refine Below.setCell ?_ ?_ _ | exact Nat.le_refl _ | (simp; done) | (simp; omega) | assumption)).trans (hb1.mono (by simp <;> omega)))
  clear hb1
  have HL := Lib.hid hln
  have HZ := Lib.hid hz
  have H1 := Lib.hid h1'
  have HAT := Lib.hid hat
  clear hln hz h1' hat
  go_wp2_with (refine wpList_store_loc rfl 35 (.tmp 3) (.tmp 9) rfl _ bs rfl rfl (by rw [HL.out]; rfl) HZ.out H1.out ?_; intro wz hrz hlz hbz; have HR2 := Lib.hid hrz; have HB2 := Lib.hid (bel_on HB1.out hbz); have HLZ := Lib.hid hlz; clear hrz hlz hbz)
  have HC := Lib.hid (show ∀ j, j < 32 → wz.cell? ⟨w1.heap.size, j, none⟩ = some (.int .u8 (byN a j : Nat)) from fun j hj => by have := HR2.out j _ (HAT.out j hj); rwa [Nat.zero_add] at this)
  clear HR2 HAT H1 HZ HL KT HB1 HLZ
  generalize w1.heap.size = gb at *
  have hn32 := numB_le ha
  have HF := Lib.hid (compact_fin ha)
  generalize hnn : numB a = n at *
  have HN := Lib.hid hnn
  clear hnn
  go_loop [4] (fun t => ∃ p : Nat, n ≤ p ∧ p ≤ 32 ∧ t = .int .i64 p) (fun t => (intOf t).toNat)
  case atStart => exact ⟨32, hn32, by omega, rfl⟩
  case round =>
    obtain ⟨p, hp1, hp2, rfl⟩ := hrel
    by_cases hgo : n < p
    · obtain ⟨y, rfl⟩ : ∃ y, p = y + 1 := ⟨p - 1, by omega⟩
      have hc := HC.out y (by omega)
      rw [byte_above (by rw [HN.out]; omega)] at hc
      obtain ⟨z, hz⟩ : ∃ z : Int, z = ((y + 1 : Nat) : Int) := ⟨_, rfl⟩
      have hz1 : z - 1 = (y : Nat) := by omega
      have hz2 : 0 < z := by omega
      have hz3 : z ≤ 32 := by omega
      have hy : (y : Int) < 32 := by omega
      have HM := Lib.hid (show (intOf (.int .i64 z)).toNat = y + 1 from by simp [intOf, hz])
      rw [← hz]
      have hpy : n ≤ y ∧ y ≤ 32 := by omega
      clear hz hgo hp1 hp2
      go_wp2_with fail
      go_round
      case rel => exact ⟨y, hpy.1, hpy.2, rfl⟩
      case measure => have := HM.out; simp [intOf] at this ⊢; omega
    · obtain rfl : p = n := by omega
      have HH := Lib.hid (show p = 0 ∨ (∃ y, p = y + 1 ∧ byN a y ≠ 0) from by
        rcases Nat.eq_zero_or_pos p with h | h
        · exact .inl h
        · exact .inr ⟨p - 1, by omega, byte_top (by rw [HN.out]; omega)⟩)
      clear hgo hp1 hp2
      have hh := HH.out
      rcases hh with h0 | ⟨y, hpy, hby⟩
      · have hp0 : ¬ (0 : Int) < (p : Int) := by omega
        clear h0
        go_wp2_with fail
        clear HH
        go_loop [5, 6] (fun m i => ∃ k q : Nat, q = k + 1 ∧ k ≤ 3 ∧ m = .int .u32 (mB a k : Nat) ∧ i = .int .i64 q) (fun _ i => 4 - (intOf i).toNat)
        case atStart => exact ⟨0, 1, rfl, by omega, rfl, rfl⟩
        case round =>
          obtain ⟨k, q, hq, hk, rfl, rfl⟩ := hrel
          by_cases hk3 : k < 3
          · have hs := mB_step a k (by omega)
            have hM' : mB a (k + 1) = 256 * mB a k + cB a q := by rw [hq]; rfl
            have b1 : 256 * ((mB a k : Nat) : Int) ≤ 4294967295 := by omega
            have b2 : ((mB a (k + 1) : Nat) : Int) ≤ 4294967295 := by omega
            have hq3 : (q : Int) ≤ 3 := by omega
            by_cases hqp : q ≤ p
            · obtain ⟨x, hx⟩ : ∃ x, x = p - q := ⟨_, rfl⟩
              have hcB : cB a q = byN a x := by unfold cB; rw [HN.out, if_pos hqp, hx]
              have hc := HC.out x (by omega)
              have e1 : (p : Int) - (q : Int) = (x : Nat) := by omega
              have e2 : 256 * ((mB a k : Nat) : Int) + ((byN a x : Nat) : Int) = ((mB a (k + 1) : Nat) : Int) := by omega
              have b3 := byN_lt a x
              have b4 : (x : Int) < 32 := by omega
              have HQ := Lib.hid (show q + 1 = k + 1 + 1 ∧ k + 1 ≤ 3 from by omega)
              clear hM' hcB hx hqp hs hq hk hk3
              generalize mB a k = M at *
              generalize hMM : mB a (k + 1) = M2 at *
              have HMM := Lib.hid hMM
              clear hMM
              generalize byN a x = C at *
              go_wp2_with fail
              go_round
              case rel => exact ⟨k + 1, q + 1, HQ.out.1, HQ.out.2, by rw [HMM.out], by go_num⟩
              case measure => have := HQ.out; simp [intOf]; omega
            · have hcB : cB a q = 0 := by unfold cB; rw [HN.out, if_neg hqp]
              have e0 : ¬ (0 : Int) ≤ (p : Int) - (q : Int) := by omega
              have e2 : 256 * ((mB a k : Nat) : Int) = ((mB a (k + 1) : Nat) : Int) := by omega
              have HQ := Lib.hid (show q + 1 = k + 1 + 1 ∧ k + 1 ≤ 3 from by omega)
              clear hM' hcB hqp hs hq hk hk3
              generalize mB a k = M at *
              generalize hMM : mB a (k + 1) = M2 at *
              have HMM := Lib.hid hMM
              clear hMM
              go_wp2_with fail
              go_round
              case rel => exact ⟨k + 1, q + 1, HQ.out.1, HQ.out.2, by rw [HMM.out], by go_num⟩
              case measure => have := HQ.out; simp [intOf]; omega
          · obtain rfl : k = 3 := by omega
            obtain ⟨f1, f2, f3⟩ := HF.out
            have hq4 : ¬ (q : Int) ≤ 3 := by omega
            clear hq hk hk3
            generalize mB a 3 = M at *
            by_cases hbig : 8388608 ≤ M
            · have hbi : (8388608 : Int) ≤ (M : Int) := by omega
              have FV := Lib.hid (f2 hbig)
              have m1 : (M : Int) / 256 = ((M / 256 : Nat) : Int) := by omega
              have m2 : ((M / 256 : Nat) : Int) ≤ 65535 := by omega
              clear f1 f2 f3 HF
              generalize M / 256 = M3 at *
              go_wp2_with fail
              go_ret
              refine ⟨?_, HB2.out⟩
              rw [← FV.out]
              congr 2
            · have hbi : ¬ (8388608 : Int) ≤ (M : Int) := by omega
              have FV := Lib.hid (f3 (by omega))
              clear f2 f3 HF
              go_wp2_with fail
              go_ret
              refine ⟨?_, HB2.out⟩
              rw [← FV.out]
              congr 2
      · have hp0 : (0 : Int) < (p : Int) := by omega
        have hy1 : (p : Int) - 1 = (y : Nat) := by omega
        have hc := HC.out y (by omega)
        have hb0 : (((byN a y : Nat) : Int) == 0) = false := by simp; omega
        have hy32 : (y : Int) < 32 := by omega
        clear hpy hby
        go_wp2_with fail
        clear hy1 hc hb0 hy32
        clear HH
        go_loop [5, 6] (fun m i => ∃ k q : Nat, q = k + 1 ∧ k ≤ 3 ∧ m = .int .u32 (mB a k : Nat) ∧ i = .int .i64 q) (fun _ i => 4 - (intOf i).toNat)
        case atStart => exact ⟨0, 1, rfl, by omega, rfl, rfl⟩
        case round =>
          obtain ⟨k, q, hq, hk, rfl, rfl⟩ := hrel
          by_cases hk3 : k < 3
          · have hs := mB_step a k (by omega)
            have hM' : mB a (k + 1) = 256 * mB a k + cB a q := by rw [hq]; rfl
            have b1 : 256 * ((mB a k : Nat) : Int) ≤ 4294967295 := by omega
            have b2 : ((mB a (k + 1) : Nat) : Int) ≤ 4294967295 := by omega
            have hq3 : (q : Int) ≤ 3 := by omega
            by_cases hqp : q ≤ p
            · obtain ⟨x, hx⟩ : ∃ x, x = p - q := ⟨_, rfl⟩
              have hcB : cB a q = byN a x := by unfold cB; rw [HN.out, if_pos hqp, hx]
              have hc := HC.out x (by omega)
              have e1 : (p : Int) - (q : Int) = (x : Nat) := by omega
              have e2 : 256 * ((mB a k : Nat) : Int) + ((byN a x : Nat) : Int) = ((mB a (k + 1) : Nat) : Int) := by omega
              have b3 := byN_lt a x
              have b4 : (x : Int) < 32 := by omega
              have HQ := Lib.hid (show q + 1 = k + 1 + 1 ∧ k + 1 ≤ 3 from by omega)
              clear hM' hcB hx hqp hs hq hk hk3
              generalize mB a k = M at *
              generalize hMM : mB a (k + 1) = M2 at *
              have HMM := Lib.hid hMM
              clear hMM
              generalize byN a x = C at *
              go_wp2_with fail
              go_round
              case rel => exact ⟨k + 1, q + 1, HQ.out.1, HQ.out.2, by rw [HMM.out], by go_num⟩
              case measure => have := HQ.out; simp [intOf]; omega
            · have hcB : cB a q = 0 := by unfold cB; rw [HN.out, if_neg hqp]
              have e0 : ¬ (0 : Int) ≤ (p : Int) - (q : Int) := by omega
              have e2 : 256 * ((mB a k : Nat) : Int) = ((mB a (k + 1) : Nat) : Int) := by omega
              have HQ := Lib.hid (show q + 1 = k + 1 + 1 ∧ k + 1 ≤ 3 from by omega)
              clear hM' hcB hqp hs hq hk hk3
              generalize mB a k = M at *
              generalize hMM : mB a (k + 1) = M2 at *
              have HMM := Lib.hid hMM
              clear hMM
              go_wp2_with fail
              go_round
              case rel => exact ⟨k + 1, q + 1, HQ.out.1, HQ.out.2, by rw [HMM.out], by go_num⟩
              case measure => have := HQ.out; simp [intOf]; omega
          · obtain rfl : k = 3 := by omega
            obtain ⟨f1, f2, f3⟩ := HF.out
            have hq4 : ¬ (q : Int) ≤ 3 := by omega
            clear hq hk hk3
            generalize mB a 3 = M at *
            by_cases hbig : 8388608 ≤ M
            · have hbi : (8388608 : Int) ≤ (M : Int) := by omega
              have FV := Lib.hid (f2 hbig)
              have m1 : (M : Int) / 256 = ((M / 256 : Nat) : Int) := by omega
              have m2 : ((M / 256 : Nat) : Int) ≤ 65535 := by omega
              clear f1 f2 f3 HF
              generalize M / 256 = M3 at *
              go_wp2_with fail
              go_ret
              refine ⟨?_, HB2.out⟩
              rw [← FV.out]
              congr 2
            · have hbi : ¬ (8388608 : Int) ≤ (M : Int) := by omega
              have FV := Lib.hid (f3 (by omega))
              clear f2 f3 HF
              go_wp2_with fail
              go_ret
              refine ⟨?_, HB2.out⟩
              rw [← FV.out]
              congr 2
end Go.Proofs.Ythmaijmjhfngpaa
