/- Numbers of four words and their 32 bytes: the program's To and From. -/
import Derived.Test.YtncfgllcleidnaaWideI
import Derived.Deep.MidRow
import Derived.Deep.Cut
namespace Go.Proofs.Ytncfgllcleidnaa
open Go.RowKit

def bytesV (a : Nat) : Array Value := ((List.range 32).map fun j => Value.int .u8 (byN a j : Nat)).toArray
def FillB (f : Nat → Nat) (k : Nat) (cs : Array Value) : Prop := ∀ i, i < k → cs[i]? = some (.int .u8 (f i : Nat))
theorem FillB.next {f : Nat → Nat} {k : Nat} {cs : Array Value} (h : FillB f k cs) (hk : k < cs.size) : FillB f (k + 1) (cs.setIfInBounds k (.int .u8 (f k : Nat))) := by
  intro i hi
  rw [Array.getElem?_setIfInBounds]
  by_cases he : k = i
  · subst he; simp [hk]
  · rw [if_neg he]; exact h i (by omega)
theorem FillB.all {a : Nat} {cs : Array Value} (h : FillB (byN a) 32 cs) (hs : cs.size = 32) : cs = bytesV a := by
  apply Array.ext_getElem?
  intro i
  by_cases hi : i < 32
  · rw [h i hi]; simp [bytesV, hi]
  · rw [Array.getElem?_eq_none (by omega), Array.getElem?_eq_none (by simp [bytesV]; omega)]

theorem byte_val (a : Nat) {k m : Nat} (hm : m < 8) : IntKind.u8.wrap (((wd a k : Nat) : Int) / 2 ^ (8 * m)) = ((byN a (8 * k + m) : Nat) : Int) := by
  have e2 : ((wd a k : Nat) : Int) / 2 ^ (8 * m) = ((wd a k / 2 ^ (8 * m) : Nat) : Int) := by
    have : (2 : Int) ^ (8 * m) = ((2 ^ (8 * m) : Nat) : Int) := by rw [Int.natCast_pow]; rfl
    rw [this]; rfl
  rw [e2, ← byte_word a k m hm]
  generalize wd a k / 2 ^ (8 * m) = z
  simp only [IntKind.wrap, IntKind.bits, IntKind.signed]; simp
theorem word_cell {w : World} {g : Nat} {t : TypeId} {a : Nat} (h : IsBlk w g t #[.int .u64 (wd a 0 : Nat), .int .u64 (wd a 1 : Nat), .int .u64 (wd a 2 : Nat), .int .u64 (wd a 3 : Nat)]) {k : Nat} (hk : k < 4) : w.cell? ⟨g, k, none⟩ = some (.int .u64 (wd a k : Nat)) := by
  have h4 : k = 0 ∨ k = 1 ∨ k = 2 ∨ k = 3 := by omega
  rcases h4 with rfl | rfl | rfl | rfl <;> (rw [h.cell]; rfl)

theorem bel_setCells {B b : Nat} {w0 : World} (hb : B ≤ b) : ∀ (vs : List Value) (o : Nat) {w : World}, Below B w0 w → Below B w0 (w.setCells b o vs)
  | [], _, _, h => h
  | v :: vs, o, _, h => bel_setCells hb vs (o + 1) (h.setCell hb v)

set_option maxRecDepth 100000 in
set_option maxHeartbeats 2000000 in
theorem to_any (a : Nat) (w : World) : Calls Try.prog 28 #[.agg #[.int .u64 (wd a 0 : Nat), .int .u64 (wd a 1 : Nat), .int .u64 (wd a 2 : Nat), .int .u64 (wd a 3 : Nat)]] w (BRet (.agg (bytesV a)) w) := by
  go_enter Try.func28, Try.ntmps28
  go_wp2_with fail
  go_loopw [5] (fun i wr => ∃ (k : Nat) (cs : Array Value), k ≤ 4 ∧ i = .int .i64 k ∧ cs.size = 32 ∧ FillB (byN a) (8 * k) cs ∧ IsBlk wr w.heap.size 24 #[.int .u64 (wd a 0 : Nat), .int .u64 (wd a 1 : Nat), .int .u64 (wd a 2 : Nat), .int .u64 (wd a 3 : Nat)] ∧
    IsBlk wr (w.heap.size + 1) 34 cs ∧ Below w.heap.size w wr) (fun i _ => 4 - (intOf i).toNat)
  case atStart => exact ⟨0, _, by omega, rfl, rfl, fun i h => by omega, by repeat' (first | with_reducible assumption | with_reducible refine IsBlk.drewN ?_ _ | with_reducible refine IsBlk.drew ?_ | with_reducible refine IsBlk.newAt _ _ ?_ | with_reducible refine IsBlk.alloc ?_ _ | with_reducible refine IsBlk.far ?_ ?_ _ | (simp; done) | (simp; omega)), IsBlk.newAt _ _ (by simp), by repeat' (first | exact Below.refl _ _ | refine bel_drewN ?_ _ | refine Below.drew ?_ | refine Below.alloc ?_ ?_ _ | refine Below.setCell ?_ ?_ _ | exact Nat.le_refl _ | (simp; done) | (simp; omega) | assumption)⟩
  case round =>
    obtain ⟨k, cs, hk, rfl, hsz, hf, hA, hO, hB⟩ := hrel
    by_cases hlt : k < 4
    · have hlt' : (k : Int) < 4 := by omega
      have e8 : IntKind.i64.wrap (8 * (k : Int)) = 8 * (k : Int) := IntWalk.i64_in _ (by omega)
      have H := Lib.hid (And.intro hsz (And.intro hf (And.intro hA (And.intro hO hB))))
      clear hsz hf hA hO hB
      go_wp2_with fail
      go_loopw [8] (fun i wr => ∃ (m : Nat) (cs : Array Value), m ≤ 8 ∧ i = .int .i64 m ∧ cs.size = 32 ∧ FillB (byN a) (8 * k + m) cs ∧ IsBlk wr w.heap.size 24 #[.int .u64 (wd a 0 : Nat), .int .u64 (wd a 1 : Nat), .int .u64 (wd a 2 : Nat), .int .u64 (wd a 3 : Nat)] ∧
        IsBlk wr (w.heap.size + 1) 34 cs ∧ Below w.heap.size w wr) (fun i _ => 8 - (intOf i).toNat)
      case atStart =>
        obtain ⟨hsz, hf, hA, hO, hB⟩ := H.out
        exact ⟨0, cs, by omega, rfl, hsz, hf, hA, hO, hB⟩
      case round =>
        obtain ⟨m, cs, hm, rfl, hsz, hf, hA, hO, hB⟩ := hrel
        by_cases hml : m < 8
        · have hml' : (m : Int) < 8 := by omega
          have e9 : IntKind.i64.wrap (8 * (m : Int)) = ((8 * m : Nat) : Int) := IntWalk.i64_in _ (by omega)
          have e9' : 8 * (m : Int) = ((8 * m : Nat) : Int) := by omega
          have eT : IntKind.i64.wrap (8 * (k : Int) + m) = ((8 * k + m : Nat) : Int) := IntWalk.i64_in _ (by omega)
          have eT' : 8 * (k : Int) + m = ((8 * k + m : Nat) : Int) := by omega
          have hv := byte_val a (k := k) hml
          have hw := word_cell hA hlt
          have hfr := hO.free (8 * k + m)
          have hsome : wr.cell? ⟨w.heap.size + 1, 8 * k + m, none⟩ = some (cs[8 * k + m]'(by omega)) := by rw [hO.cell, Array.getElem?_eq_getElem]
          have b1 : ((8 * k + m : Nat) : Int) < 32 := by omega
          have HN := Lib.hid (hf.next (by omega))
          have HS := Lib.hid hsz
          have HA := Lib.hid hA
          have HO := Lib.hid hO
          have HB := Lib.hid hB
          generalize cs[8 * k + m]'(by omega) = x at hsome
          clear hf hsz hA hO hB H
          generalize 8 * k + m = T at *
          generalize 8 * m = M at *
          go_wp2_with fail
          refine ⟨⟨m + 1, cs.setIfInBounds T (.int .u8 (byN a T : Nat)), by omega, by go_num, by simpa using HS.out, ?_, HA.out.far (by simp) _, HO.out.put _ _, HB.out.setCell (by simp) _⟩, by simp [intOf]; omega⟩
          have := HN.out
          rwa [show 8 * k + (m + 1) = T + 1 from by omega]
        · obtain rfl : m = 8 := by omega
          have H2 := Lib.hid (And.intro hsz (And.intro hf (And.intro hA (And.intro hO hB))))
          clear hsz hf hA hO hB hml hm H
          go_wp2_with fail
          obtain ⟨hsz, hf, hA, hO, hB⟩ := H2.out
          exact ⟨⟨k + 1, cs, by omega, by go_num, hsz, by rwa [show 8 * (k + 1) = 8 * k + 8 from by omega], hA, hO, hB⟩, by simp [intOf]; omega⟩
    · obtain rfl : k = 4 := by omega
      have hcs := hf.all hsz
      subst hcs
      have hr : wr.rangeAt (w.heap.size + 1) 0 (bytesV a).toList := fun j v h => by
        rw [Nat.zero_add, hO.cell]; simpa using h
      have ht : wr.there (w.heap.size + 1) 0 (bytesV a).size := fun j hj => by
        rw [Nat.zero_add, hO.cell, Array.getElem?_eq_getElem hj]; exact ⟨rfl, hO.free j⟩
      have h1 : (bytesV a).all (·.oneCell') = true := by
        apply Array.all_eq_true_iff_forall_mem.2
        intro v hv
        simp [bytesV] at hv
        obtain ⟨j, _, rfl⟩ := hv
        rfl
      have hz : (Try.prog.info? 34).map (·.size) = some (bytesV a).size := by kernel_rfl
      have HO := Lib.hid hO
      have HB := Lib.hid hB
      clear hO hB hA hf hsz hlt hk
      generalize bytesV a = bs at *
      go_upto_region 10 with (fail)
      refine wp_region_list ?_
      refine wpList_load_mid rfl 34 _ rfl (w.heap.size + 1) 0 rfl bs.toList _ hr Try.underlying34 rfl (by simpa using hz) ?_
      refine wpList_store_mid rfl 34 _ _ rfl (w.heap.size + 1) 0 bs rfl rfl ht hz h1 ?_
      have hr2 := World.rangeAt_setCells_same wr _ 0 _ (by rw [Array.length_toList]; exact ht)
      have hlv : (loadVar 34 ⟨w.heap.size + 1, 0, none⟩).run Try.prog (wr.setCells (w.heap.size + 1) 0 bs.toList) = .ok (.agg bs) (wr.setCells (w.heap.size + 1) 0 bs.toList) := by
        simpa using run_loadVar_mid (P := Try.prog) _ _ 0 34 _ _ hr2 Try.underlying34 rfl (by simpa using hz)
      have hB2 : Below w.heap.size w (wr.setCells (w.heap.size + 1) 0 bs.toList) := bel_setCells (by omega) _ _ HB.out
      generalize wr.setCells (w.heap.size + 1) 0 bs.toList = wz at *
      clear hr2 hr ht h1 hz HB HO
      go_wp2_with fail
      exact bodyPost_ret (v := .agg bs) (by simp [results, Try.results28, Sem.run_bind, Sem.run_pure, asAddr, Act.put, hlv]) rfl ⟨rfl, hB2⟩
end Go.Proofs.Ytncfgllcleidnaa
