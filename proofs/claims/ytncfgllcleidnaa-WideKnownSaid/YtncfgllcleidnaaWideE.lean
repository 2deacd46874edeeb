/- What the laws on numbers of four words share: '==', the chapter's answers. -/
import Derived.Test.YtncfgllcleidnaaWideS
namespace Go.Proofs.Ytncfgllcleidnaa
open Go.RowKit

theorem eqW (a0 a1 a2 a3 b0 b1 b2 b3 : Int) (w : World) : (binOp .eql 24 (.agg #[.int .u64 a0, .int .u64 a1, .int .u64 a2, .int .u64 a3]) (.agg #[.int .u64 b0, .int .u64 b1, .int .u64 b2, .int .u64 b3])).run Try.prog w = .ok (.bool ([a0, a1, a2, a3] == [b0, b1, b2, b3])) w :=
  run_eql_nums w 24 22 4 .u64 Try.underlying24 Try.underlying22 (fun _ => by kernel_rfl) [a0, a1, a2, a3] [b0, b1, b2, b3] rfl rfl
theorem eqW_same (a0 a1 a2 a3 : Int) (w : World) : (binOp .eql 24 (.agg #[.int .u64 a0, .int .u64 a1, .int .u64 a2, .int .u64 a3]) (.agg #[.int .u64 a0, .int .u64 a1, .int .u64 a2, .int .u64 a3])).run Try.prog w = .ok (.bool true) w := by
  rw [eqW]; simp

/-- A function that hands back a number of four words. -/
theorem wds_lit (n : Nat) (x0 x1 x2 x3 : Nat) (h0 : wd n 0 = x0) (h1 : wd n 1 = x1) (h2 : wd n 2 = x2) (h3 : wd n 3 = x3) : (.agg #[.int .u64 (wd n 0 : Nat), .int .u64 (wd n 1 : Nat), .int .u64 (wd n 2 : Nat), .int .u64 (wd n 3 : Nat)] : Value) = .agg #[.int .u64 (x0 : Int), .int .u64 (x1 : Int), .int .u64 (x2 : Int), .int .u64 (x3 : Int)] := by rw [h0, h1, h2, h3]
theorem wd_zero (i : Nat) : wd 0 i = 0 := by simp [wd]

set_option maxHeartbeats 1000000 in
theorem greatest_any (w : World) : Calls Try.prog 31 #[] w (BRet (.agg #[.int .u64 (wd (notN 0) 0 : Nat), .int .u64 (wd (notN 0) 1 : Nat), .int .u64 (wd (notN 0) 2 : Nat), .int .u64 (wd (notN 0) 3 : Nat)]) w) := by
  have N := Lib.hid (show ∀ w, Calls Try.prog 24 #[.agg #[.int .u64 0, .int .u64 0, .int .u64 0, .int .u64 0]] w (BRet (.agg #[.int .u64 (wd (notN 0) 0 : Nat), .int .u64 (wd (notN 0) 1 : Nat), .int .u64 (wd (notN 0) 2 : Nat), .int .u64 (wd (notN 0) 3 : Nat)]) w) from fun w => by
    have := not_any 0 w (by rw [w256_eq]; decide)
    rw [wd_zero, wd_zero, wd_zero, wd_zero] at this
    exact this)
  go_enter Try.func31, Try.ntmps31
  go_wp2_with fail
  refine (N.out _).mono ?_
  rintro e w1 ⟨rfl, hb⟩
  have hR := (IsBlk.new w 24 #[.int .u64 0, .int .u64 0, .int .u64 0, .int .u64 0]).after hb
  have HB := Lib.hid (((Below.refl _ _).alloc (Nat.le_refl _) _).trans (hb.mono (by simp)) : Below w.heap.size w w1)
  have r0 := hR.cell 0
  have r1 := hR.cell 1
  have r2 := hR.cell 2
  have r3 := hR.cell 3
  simp at r0 r1 r2 r3
  have frr := hR.free
  have HR := Lib.hid hR
  clear hR hb
  go_wp2_with fail
  refine bodyPost_ret (v := (.agg #[.int .u64 (wd (notN 0) 0 : Nat), .int .u64 (wd (notN 0) 1 : Nat), .int .u64 (wd (notN 0) 2 : Nat), .int .u64 (wd (notN 0) 3 : Nat)])) ?_ rfl ⟨rfl, ?_⟩
  · have b0 := ((((HR.out.put 0 (.int .u64 (wd (notN 0) 0 : Nat))).put 1 (.int .u64 (wd (notN 0) 1 : Nat))).put 2 (.int .u64 (wd (notN 0) 2 : Nat))).put 3 (.int .u64 (wd (notN 0) 3 : Nat)))
    have z0 := b0.cell 0
    have z1 := b0.cell 1
    have z2 := b0.cell 2
    have z3 := b0.cell 3
    simp at z0 z1 z2 z3
    simp [results, Try.results31, go_sem, z0, z1, z2, z3]
  · exact (((HB.out.setCell (by simp) _).setCell (by simp) _).setCell (by simp) _).setCell (by simp) _

set_option maxRecDepth 100000 in
set_option maxHeartbeats 2000000 in
theorem awake_any (w : World) : Calls Try.prog 15 #[] w (BRet (.bool true) w) := by
  have hlit : (.agg #[.int .u64 (wd (notN 0) 0 : Nat), .int .u64 (wd (notN 0) 1 : Nat), .int .u64 (wd (notN 0) 2 : Nat), .int .u64 (wd (notN 0) 3 : Nat)] : Value) = .agg #[.int .u64 18446744073709551615, .int .u64 18446744073709551615, .int .u64 18446744073709551615, .int .u64 18446744073709551615] := wds_lit _ 18446744073709551615 18446744073709551615 18446744073709551615 18446744073709551615 (by decide) (by decide) (by decide) (by decide)
  have h1 : (.agg #[.int .u64 (wd 1 0 : Nat), .int .u64 (wd 1 1 : Nat), .int .u64 (wd 1 2 : Nat), .int .u64 (wd 1 3 : Nat)] : Value) = .agg #[.int .u64 1, .int .u64 0, .int .u64 0, .int .u64 0] := wds_lit _ 1 0 0 0 (by decide) (by decide) (by decide) (by decide)
  have h0 : (.agg #[.int .u64 (wd 0 0 : Nat), .int .u64 (wd 0 1 : Nat), .int .u64 (wd 0 2 : Nat), .int .u64 (wd 0 3 : Nat)] : Value) = .agg #[.int .u64 0, .int .u64 0, .int .u64 0, .int .u64 0] := wds_lit _ 0 0 0 0 (by decide) (by decide) (by decide) (by decide)
  have l1 : (1 : Nat) < w256 := by rw [w256_eq]; decide
  have l0 : (0 : Nat) < w256 := by rw [w256_eq]; decide
  have lg : notN 0 < w256 := notN_lt 0
  have ea : addN (notN 0) 1 = 0 := by decide
  have eb : subN 0 1 = notN 0 := by decide
  have G := Lib.hid (show ∀ w, Calls Try.prog 31 #[] w (BRet (.agg #[.int .u64 18446744073709551615, .int .u64 18446744073709551615, .int .u64 18446744073709551615, .int .u64 18446744073709551615]) w) from fun w => by rw [← hlit]; exact greatest_any w)
  have A1 := Lib.hid (show ∀ w, Calls Try.prog 18 #[.agg #[.int .u64 18446744073709551615, .int .u64 18446744073709551615, .int .u64 18446744073709551615, .int .u64 18446744073709551615], .agg #[.int .u64 1, .int .u64 0, .int .u64 0, .int .u64 0]] w (BRet (.tuple #[.agg #[.int .u64 0, .int .u64 0, .int .u64 0, .int .u64 0], .bool true]) w) from fun w => by
    have := add_any (notN 0) 1 w lg l1
    rw [ea, hlit, h1, h0, show addOv (notN 0) 1 = true from by decide] at this
    exact this)
  have S1 := Lib.hid (show ∀ w, Calls Try.prog 20 #[.agg #[.int .u64 0, .int .u64 0, .int .u64 0, .int .u64 0], .agg #[.int .u64 1, .int .u64 0, .int .u64 0, .int .u64 0]] w (BRet (.tuple #[.agg #[.int .u64 18446744073709551615, .int .u64 18446744073709551615, .int .u64 18446744073709551615, .int .u64 18446744073709551615], .bool true]) w) from fun w => by
    have := sub_any 0 1 w l0 l1
    rw [eb, hlit, h1, h0, show subLess 0 1 = true from by decide] at this
    exact this)
  have B1 := Lib.hid (show ∀ w, Calls Try.prog 13 #[.agg #[.int .u64 18446744073709551615, .int .u64 18446744073709551615, .int .u64 18446744073709551615, .int .u64 18446744073709551615]] w (BRet (.int .i64 256) w) from fun w => by
    have := bits_any (notN 0) w lg
    rw [hlit, show bitsN (notN 0) = 256 from by
      apply bitsN_eq (k := 255) <;> decide] at this
    exact this)
  have q0 := eqW_same 0 0 0 0
  have q1 := eqW_same 18446744073709551615 18446744073709551615 18446744073709551615 18446744073709551615
  clear hlit h1 h0 l1 l0 lg ea eb
  go_enter Try.func15, Try.ntmps15
  go_wp2_with fail
  refine (G.out _).mono ?_
  rintro e w1 ⟨rfl, hb1⟩
  go_wp2_with fail
  refine (A1.out _).mono ?_
  rintro e w2 ⟨rfl, hb2⟩
  go_wp2_with fail
  refine (S1.out _).mono ?_
  rintro e w3 ⟨rfl, hb3⟩
  go_wp2_with fail
  have hR := (IsBlk.new w2 24 #[.int .u64 0, .int .u64 0, .int .u64 0, .int .u64 0]).after hb3
  have r0 := hR.cell 0
  have r1 := hR.cell 1
  have r2 := hR.cell 2
  have r3 := hR.cell 3
  simp at r0 r1 r2 r3
  have frr := hR.free
  have HB3 : Below w.heap.size w w3 := hb1.trans ((hb2.mono hb1.size).trans (((Below.refl _ _).alloc (Nat.le_refl _) _).trans (hb3.mono (by simp)) |>.mono (Nat.le_trans hb1.size hb2.size)))
  have HB := Lib.hid HB3
  have hlt := hR.lt
  clear HB3 hb1 hb2 hb3 frr hR
  go_region_held3 (fun w' => w'.cell? ⟨w2.heap.size, 0, none⟩ = some (.int .u64 0) ∧ w'.cell? ⟨w2.heap.size, 1, none⟩ = some (.int .u64 0) ∧ w'.cell? ⟨w2.heap.size, 2, none⟩ = some (.int .u64 0) ∧ w'.cell? ⟨w2.heap.size, 3, none⟩ = some (.int .u64 0) ∧ w'.cell? ⟨w3.heap.size, 0, none⟩ = some (.int .u64 18446744073709551615) ∧ w'.cell? ⟨w3.heap.size, 1, none⟩ = some (.int .u64 18446744073709551615) ∧ w'.cell? ⟨w3.heap.size, 2, none⟩ = some (.int .u64 18446744073709551615) ∧ w'.cell? ⟨w3.heap.size, 3, none⟩ = some (.int .u64 18446744073709551615)) (first | go_keep | (refine ⟨?_, ?_, ?_, ?_, ?_, ?_, ?_, ?_⟩ <;> (refine cell_later hbx ?_; go_keep))) (first | (go_at_call 31; refine (G.out _).mono ?_; rintro e w4 ⟨rfl, hbx⟩) | (go_at_call 13; refine (B1.out _).mono ?_; rintro e w5 ⟨rfl, hbx⟩))
  go_wp2_with fail
  rename_i hA hH
  go_ret
  have hs := HB.out.size
  have hB5 := ((HB.out.alloc hs _).drew).trans (hA.mono (by first | (simp; omega) | (simp [World.drew]; omega)))
  exact ⟨rfl, hB5.trans (hbx.mono hB5.size)⟩
end Go.Proofs.Ytncfgllcleidnaa
