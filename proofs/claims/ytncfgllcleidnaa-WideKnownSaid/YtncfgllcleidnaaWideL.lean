/- Numbers of four words: the law's own sum. -/
import Derived.Test.YtncfgllcleidnaaWideK
namespace Go.Proofs.Ytncfgllcleidnaa
open Go.RowKit

set_option maxRecDepth 100000 in
set_option maxHeartbeats 2000000 in
theorem sumW_any {a b : Nat} (ha : a < w256) (hb : b < w256) (w : World) : Calls Try.prog 30 #[.agg #[.int .u64 (wd a 0 : Nat), .int .u64 (wd a 1 : Nat), .int .u64 (wd a 2 : Nat), .int .u64 (wd a 3 : Nat)], .agg #[.int .u64 (wd b 0 : Nat), .int .u64 (wd b 1 : Nat), .int .u64 (wd b 2 : Nat), .int .u64 (wd b 3 : Nat)]] w (BRet (.agg #[.int .u64 (wd (addN a b) 0 : Nat), .int .u64 (wd (addN a b) 1 : Nat), .int .u64 (wd (addN a b) 2 : Nat), .int .u64 (wd (addN a b) 3 : Nat)]) w) := by
  have C := Lib.hid (fun w => add_any a b w ha hb)
  generalize addN a b = S at *
  go_enter Try.func30, Try.ntmps30
  go_wp2_with fail
  refine (C.out _).mono ?_
  rintro e w1 ⟨rfl, hb1⟩
  have hR := (IsBlk.newAt (w := (w.alloc (.cells #[.int .u64 (wd a 0 : Nat), .int .u64 (wd a 1 : Nat), .int .u64 (wd a 2 : Nat), .int .u64 (wd a 3 : Nat)] 24)).alloc (.cells #[.int .u64 (wd b 0 : Nat), .int .u64 (wd b 1 : Nat), .int .u64 (wd b 2 : Nat), .int .u64 (wd b 3 : Nat)] 24)) (g := w.heap.size + 1 + 1) 24 #[.int .u64 0, .int .u64 0, .int .u64 0, .int .u64 0] (by simp)).after hb1
  have hB := (show Below w.heap.size w _ from by repeat' (first | exact Below.refl _ _ | refine bel_drewN ?_ _ | refine Below.drew ?_ | refine Below.alloc ?_ ?_ _ | refine Below.setCell ?_ ?_ _ | exact Nat.le_refl _ | (simp; done) | (simp; omega) | assumption)).trans (hb1.mono (by simp; omega))
  have r0 := hR.cell 0
  have r1 := hR.cell 1
  have r2 := hR.cell 2
  have r3 := hR.cell 3
  simp at r0 r1 r2 r3
  have frr := hR.free
  have lr := hR.lt
  have HR := Lib.hid hR
  have HB := Lib.hid hB
  clear hR hB hb1
  go_wp2_with fail
  refine bodyPost_ret (v := .agg #[.int .u64 (wd S 0 : Nat), .int .u64 (wd S 1 : Nat), .int .u64 (wd S 2 : Nat), .int .u64 (wd S 3 : Nat)]) ?_ rfl ⟨rfl, ?_⟩
  · have b0 := ((((HR.out.put 0 (.int .u64 (wd S 0 : Nat))).put 1 (.int .u64 (wd S 1 : Nat))).put 2 (.int .u64 (wd S 2 : Nat))).put 3 (.int .u64 (wd S 3 : Nat))).alloc (.cells #[.int .u64 (wd S 0 : Nat), .int .u64 (wd S 1 : Nat), .int .u64 (wd S 2 : Nat), .int .u64 (wd S 3 : Nat)] 24)
    have z0 := b0.cell 0
    have z1 := b0.cell 1
    have z2 := b0.cell 2
    have z3 := b0.cell 3
    simp at z0 z1 z2 z3
    simp [results, Try.results30, go_sem, z0, z1, z2, z3]
  · have hs := HB.out.size
    exact ((((HB.out.setCell (by simp; omega) _).setCell (by simp; omega) _).setCell (by simp; omega) _).setCell (by simp; omega) _).alloc (by simp [World.setCell]; omega) _
end Go.Proofs.Ytncfgllcleidnaa
