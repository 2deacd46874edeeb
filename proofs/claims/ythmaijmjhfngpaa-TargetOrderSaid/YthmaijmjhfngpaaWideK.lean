/- Numbers of four words and their 32 bytes: the program's From. -/
import Derived.Test.YthmaijmjhfngpaaWideJ
namespace Go.Proofs.Ythmaijmjhfngpaa
open Go.RowKit

def fromN (f : Nat → Nat) (t : Nat) : Nat := ofBits (bitsOf f) (8 * t)
theorem from_val {f : Nat → Nat} (hf : ∀ j, f j < 256) (i k : Nat) :
    bits .or .u64 ((wd (fromN f (8 * i + k)) i : Nat) : Int) (IntKind.u64.wrap (((f (8 * i + k) : Nat) : Int) * 2 ^ (8 * k))) = ((wd (fromN f (8 * i + k + 1)) i : Nat) : Int) := by
  have e1 : IntKind.u64.wrap (((f (8 * i + k) : Nat) : Int) * 2 ^ (8 * k)) = ((f (8 * i + k) * 2 ^ (8 * k) % 2 ^ 64 : Nat) : Int) := by
    have : ((f (8 * i + k) : Nat) : Int) * 2 ^ (8 * k) = ((f (8 * i + k) * 2 ^ (8 * k) : Nat) : Int) := by rw [Int.natCast_mul, Int.natCast_pow]; rfl
    rw [this]
    generalize f (8 * i + k) * 2 ^ (8 * k) = z
    simp only [IntKind.wrap, IntKind.bits, IntKind.signed]; simp
  rw [e1, u64_or_nat _ _ (wd_lt _ _) (Nat.mod_lt _ (by decide))]
  exact congrArg _ (from_next hf)

theorem from_set (f : Nat → Nat) {k m : Nat} (hk : k < 4) (hm : m < 8) : (#[.int .u64 (wd (fromN f (8 * k + m)) 0 : Nat), .int .u64 (wd (fromN f (8 * k + m)) 1 : Nat), .int .u64 (wd (fromN f (8 * k + m)) 2 : Nat), .int .u64 (wd (fromN f (8 * k + m)) 3 : Nat)] : Array Value).setIfInBounds k (.int .u64 (wd (fromN f (8 * k + m + 1)) k : Nat)) = #[.int .u64 (wd (fromN f (8 * k + m + 1)) 0 : Nat), .int .u64 (wd (fromN f (8 * k + m + 1)) 1 : Nat), .int .u64 (wd (fromN f (8 * k + m + 1)) 2 : Nat), .int .u64 (wd (fromN f (8 * k + m + 1)) 3 : Nat)] := by
  have E := fun j (h : ¬ j = k) => from_same f (i := k) (j := j) (k := m) hm h
  have h4 : k = 0 ∨ k = 1 ∨ k = 2 ∨ k = 3 := by omega
  unfold fromN
  rcases h4 with rfl | rfl | rfl | rfl
  · rw [E 1 (by omega), E 2 (by omega), E 3 (by omega)]; rfl
  · rw [E 0 (by omega), E 2 (by omega), E 3 (by omega)]; rfl
  · rw [E 0 (by omega), E 1 (by omega), E 3 (by omega)]; rfl
  · rw [E 0 (by omega), E 1 (by omega), E 2 (by omega)]; rfl

set_option maxRecDepth 100000 in
set_option maxHeartbeats 2000000 in
theorem from_any (f : Nat → Nat) (hf : ∀ j, f j < 256) (cs : Array Value) (hs : cs.size = 32) (hc : FillB f 32 cs) (w : World) : Calls Try.prog 36 #[.agg cs] w (BRet (.agg #[.int .u64 (wd (ofBits (bitsOf f) 256) 0 : Nat), .int .u64 (wd (ofBits (bitsOf f) 256) 1 : Nat), .int .u64 (wd (ofBits (bitsOf f) 256) 2 : Nat), .int .u64 (wd (ofBits (bitsOf f) 256) 3 : Nat)]) w) := by
  have e256 : ofBits (bitsOf f) 256 = fromN f (8 * 4) := rfl
  rw [e256]
  clear e256
  have HF := Lib.hid hf
  have HS := Lib.hid hs
  have HC := Lib.hid hc
  clear hf hs hc
  go_enter Try.func36, Try.ntmps36
  go_wp2_with fail
  go_loopw [5] (fun i wr => ∃ (k : Nat), k ≤ 4 ∧ i = .int .i64 k ∧ IsBlk wr w.heap.size 35 cs ∧ IsBlk wr (w.heap.size + 1) 25 #[.int .u64 (wd (fromN f (8 * k)) 0 : Nat), .int .u64 (wd (fromN f (8 * k)) 1 : Nat), .int .u64 (wd (fromN f (8 * k)) 2 : Nat), .int .u64 (wd (fromN f (8 * k)) 3 : Nat)] ∧ Below w.heap.size w wr) (fun i _ => 4 - (intOf i).toNat)
  case atStart =>
    have z : ∀ j, wd (fromN f (8 * 0)) j = 0 := fun j => by simp [fromN, ofBits, wd]
    refine ⟨0, by omega, rfl, by repeat' (first | with_reducible assumption | with_reducible refine IsBlk.drewN ?_ _ | with_reducible refine IsBlk.drew ?_ | with_reducible refine IsBlk.newAt _ _ ?_ | with_reducible refine IsBlk.alloc ?_ _ | with_reducible refine IsBlk.far ?_ ?_ _ | (simp; done) | (simp; omega)), ?_, by repeat' (first | exact Below.refl _ _ | refine bel_drewN ?_ _ | refine Below.drew ?_ | refine Below.alloc ?_ ?_ _ | refine Below.setCell ?_ ?_ _ | exact Nat.le_refl _ | (simp; done) | (simp; omega) | assumption)⟩
    rw [z, z, z, z]
    exact IsBlk.newAt _ _ (by simp)
  case round =>
    obtain ⟨k, hk, rfl, hA, hO, hB⟩ := hrel
    by_cases hlt : k < 4
    · have hlt' : (k : Int) < 4 := by omega
      have e8 : IntKind.i64.wrap (8 * (k : Int)) = 8 * (k : Int) := IntWalk.i64_in _ (by omega)
      have H := Lib.hid (And.intro hA (And.intro hO hB))
      clear hA hO hB
      go_wp2_with fail
      go_loopw [8] (fun i wr => ∃ (m : Nat), m ≤ 8 ∧ i = .int .i64 m ∧ IsBlk wr w.heap.size 35 cs ∧ IsBlk wr (w.heap.size + 1) 25 #[.int .u64 (wd (fromN f (8 * k + m)) 0 : Nat), .int .u64 (wd (fromN f (8 * k + m)) 1 : Nat), .int .u64 (wd (fromN f (8 * k + m)) 2 : Nat), .int .u64 (wd (fromN f (8 * k + m)) 3 : Nat)] ∧ Below w.heap.size w wr) (fun i _ => 8 - (intOf i).toNat)
      case atStart =>
        obtain ⟨hA, hO, hB⟩ := H.out
        exact ⟨0, by omega, rfl, hA, hO, hB⟩
      case round =>
        obtain ⟨m, hm, rfl, hA, hO, hB⟩ := hrel
        by_cases hml : m < 8
        · have hml' : (m : Int) < 8 := by omega
          have e9 : IntKind.i64.wrap (8 * (m : Int)) = ((8 * m : Nat) : Int) := IntWalk.i64_in _ (by omega)
          have e9' : 8 * (m : Int) = ((8 * m : Nat) : Int) := by omega
          have eT : IntKind.i64.wrap (8 * (k : Int) + m) = ((8 * k + m : Nat) : Int) := IntWalk.i64_in _ (by omega)
          have eT' : 8 * (k : Int) + m = ((8 * k + m : Nat) : Int) := by omega
          have hv := from_val HF.out k m
          have hw := word_cell hO hlt
          have hfr := hO.free k
          have hb : wr.cell? ⟨w.heap.size, 8 * k + m, none⟩ = some (.int .u8 (f (8 * k + m) : Nat)) := by rw [hA.cell]; exact HC.out _ (by omega)
          have hl := HF.out (8 * k + m)
          have hcv : IntKind.u64.wrap ((f (8 * k + m) : Nat) : Int) = ((f (8 * k + m) : Nat) : Int) := IntWalk.u64_in _ (by omega)
          have b1 : ((8 * k + m : Nat) : Int) < 32 := by omega
          have hst := hO.put k (.int .u64 (wd (fromN f (8 * k + m + 1)) k : Nat))
          rw [from_set f hlt hml] at hst
          have HST := Lib.hid hst
          have HA := Lib.hid hA
          have HB := Lib.hid hB
          have HT : 8 * k + (m + 1) = 8 * k + m + 1 := by omega
          have HT := Lib.hid HT
          clear hst hA hO hB H hl
          generalize 8 * k + m = T at *
          generalize 8 * m = M at *
          generalize f T = fT at *
          generalize hV : wd (fromN f T) k = V at *
          generalize hV1 : wd (fromN f (T + 1)) k = V1 at *
          clear hV hV1
          go_wp2_with fail
          go_region
          go_wp2_with fail
          refine ⟨⟨m + 1, by omega, by go_num, (HA.out.far (by simp) _).drew, ?_, (HB.out.setCell (by simp) _).drew⟩, by simp [intOf]; omega⟩
          rw [HT.out]
          exact HST.out
        · obtain rfl : m = 8 := by omega
          have H2 := Lib.hid (And.intro hA (And.intro hO hB))
          clear hA hO hB hml hm H
          go_wp2_with fail
          obtain ⟨hA, hO, hB⟩ := H2.out
          exact ⟨⟨k + 1, by omega, by go_num, hA, by rwa [show 8 * (k + 1) = 8 * k + 8 from by omega], hB⟩, by simp [intOf]; omega⟩
    · obtain rfl : k = 4 := by omega
      have r0 := hO.cell 0
      have r1 := hO.cell 1
      have r2 := hO.cell 2
      have r3 := hO.cell 3
      simp at r0 r1 r2 r3
      have frr := hO.free
      have HO := Lib.hid hO
      have HB := Lib.hid hB
      clear hA hO hB hlt hk
      go_wp2_with fail
      refine bodyPost_ret (v := (.agg #[.int .u64 (wd (fromN f (8 * 4)) 0 : Nat), .int .u64 (wd (fromN f (8 * 4)) 1 : Nat), .int .u64 (wd (fromN f (8 * 4)) 2 : Nat), .int .u64 (wd (fromN f (8 * 4)) 3 : Nat)])) ?_ rfl ⟨rfl, ?_⟩
      · have b0 := ((((HO.out.put 0 (.int .u64 (wd (fromN f (8 * 4)) 0 : Nat))).put 1 (.int .u64 (wd (fromN f (8 * 4)) 1 : Nat))).put 2 (.int .u64 (wd (fromN f (8 * 4)) 2 : Nat))).put 3 (.int .u64 (wd (fromN f (8 * 4)) 3 : Nat)))
        have z0 := b0.cell 0
        have z1 := b0.cell 1
        have z2 := b0.cell 2
        have z3 := b0.cell 3
        simp at z0 z1 z2 z3
        simp [results, Try.results36, go_sem, z0, z1, z2, z3]
      · exact (((HB.out.setCell (by first | (simp; done) | (simp; omega)) _).setCell (by first | (simp; done) | (simp; omega)) _).setCell (by first | (simp; done) | (simp; omega)) _).setCell (by first | (simp; done) | (simp; omega)) _
end Go.Proofs.Ythmaijmjhfngpaa
