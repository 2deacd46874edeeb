/- Numbers of four words: the law of moves up and down again. -/
import Derived.Test.YtncfgllcleidnaaWideG
namespace Go.Proofs.Ytncfgllcleidnaa
open Go.RowKit

theorem lit_zero : (.agg #[.int .u64 (wd 0 0 : Nat), .int .u64 (wd 0 1 : Nat), .int .u64 (wd 0 2 : Nat), .int .u64 (wd 0 3 : Nat)] : Value) = .agg #[.int .u64 0, .int .u64 0, .int .u64 0, .int .u64 0] := wds_lit _ 0 0 0 0 (by decide) (by decide) (by decide) (by decide)
theorem lit_one : (.agg #[.int .u64 (wd 1 0 : Nat), .int .u64 (wd 1 1 : Nat), .int .u64 (wd 1 2 : Nat), .int .u64 (wd 1 3 : Nat)] : Value) = .agg #[.int .u64 1, .int .u64 0, .int .u64 0, .int .u64 0] := wds_lit _ 1 0 0 0 (by decide) (by decide) (by decide) (by decide)
theorem sh_any {a : Nat} (ha : a < w256) (c : Int) (w : World) : Calls Try.prog 11 #[.agg #[.int .u64 (wd a 0 : Nat), .int .u64 (wd a 1 : Nat), .int .u64 (wd a 2 : Nat), .int .u64 (wd a 3 : Nat)], .int .i64 c] w (BRet (.agg #[.int .u64 (wd (shiftN a c) 0 : Nat), .int .u64 (wd (shiftN a c) 1 : Nat), .int .u64 (wd (shiftN a c) 2 : Nat), .int .u64 (wd (shiftN a c) 3 : Nat)]) w) := by
  have := shift_any a c w ha
  rwa [shiftN_clamp ha] at this

set_option maxRecDepth 100000 in
set_option maxHeartbeats 4000000 in
theorem moves_walk (a n : Nat) (w : World) (ha : a < w256) (hn : n < 256) : Calls Try.prog 4 #[.agg #[.int .u64 (wd a 0 : Nat), .int .u64 (wd a 1 : Nat), .int .u64 (wd a 2 : Nat), .int .u64 (wd a 3 : Nat)], .int .u8 n] w (BRet (.bool true) w) := by
  have hU : shiftN a n < w256 := shiftN_lt ha _
  have hL : shiftN (shiftN a n) (-(n : Int)) < w256 := shiftN_lt hU _
  have hB : bitsN a ≤ 256 := bitsN_le ha
  have C1 := Lib.hid (sh_any ha n)
  have C2 := Lib.hid (sh_any hU (-(n : Int)))
  have C3 := Lib.hid (show ∀ w, Calls Try.prog 16 #[.agg #[.int .u64 (wd a 0 : Nat), .int .u64 (wd a 1 : Nat), .int .u64 (wd a 2 : Nat), .int .u64 (wd a 3 : Nat)], .int .u64 2] w (BRet (.tuple #[.agg #[.int .u64 (wd (shiftN a 1) 0 : Nat), .int .u64 (wd (shiftN a 1) 1 : Nat), .int .u64 (wd (shiftN a 1) 2 : Nat), .int .u64 (wd (shiftN a 1) 3 : Nat)], .int .u64 (mulOv a 2 : Nat)]) w) from fun w => shiftN_one a ▸ mul_any a 2 w ha (by omega))
  have C4 := Lib.hid (fun w => bits_any a w ha)
  have C5 := Lib.hid (sh_any ha (-((bitsN a : Nat) : Int)))
  rw [shiftN_all a ha, lit_zero] at C5
  have C6 := Lib.hid (sh_any (a := 0) (by rw [w256_eq]; decide) ((bitsN a : Nat) : Int))
  rw [shiftN_of_zero, lit_zero] at C6
  have C7 := Lib.hid (sh_any ha 1)
  have C8 := Lib.hid (of_any 1)
  have C9 := Lib.hid (fun w => bits_any _ w hU)
  have C10 := Lib.hid (fun w => bits_any _ w hL)
  have AW := Lib.hid awake_any
  have S1 : a ≠ 0 → (1 : Int) ≤ ((bitsN a : Nat) : Int) ∧ ∀ w, Calls Try.prog 11 #[.agg #[.int .u64 (wd a 0 : Nat), .int .u64 (wd a 1 : Nat), .int .u64 (wd a 2 : Nat), .int .u64 (wd a 3 : Nat)], .int .i64 (1 - ((bitsN a : Nat) : Int))] w (BRet (.agg #[.int .u64 1, .int .u64 0, .int .u64 0, .int .u64 0]) w) := fun h => by
    refine ⟨by obtain ⟨k, e, _⟩ := bitsN_spec h; omega, fun w => ?_⟩
    have := sh_any ha (1 - ((bitsN a : Nat) : Int)) w
    rwa [shiftN_last ha h, lit_one] at this
  have cases3 : (a = 0 ∧ ((bitsN a : Nat) : Int) = 0 ∧ shiftN (shiftN a n) (-(n : Int)) = a) ∨ (a ≠ 0 ∧ ((bitsN a : Nat) : Int) + n ≤ 256 ∧ shiftN (shiftN a n) (-(n : Int)) = a ∧ ((bitsN (shiftN a n) : Nat) : Int) = ((bitsN a : Nat) : Int) + n) ∨ (a ≠ 0 ∧ 256 < ((bitsN a : Nat) : Int) + n ∧ ((bitsN (shiftN (shiftN a n) (-(n : Int))) : Nat) : Int) ≤ 256 - n) := by
    by_cases h0 : a = 0
    · have hz : bitsN a = 0 := by subst h0; rfl
      exact .inl ⟨h0, by omega, up_down (by omega)⟩
    · by_cases h : bitsN a + n ≤ 256
      · exact .inr (.inl ⟨h0, by omega, up_down h, by rw [up_bits h0 h]; omega⟩)
      · have := low_bits a n (by omega)
        exact .inr (.inr ⟨h0, by omega, by omega⟩)
  have hB0 : (0 : Int) ≤ ((bitsN a : Nat) : Int) ∧ ((bitsN a : Nat) : Int) ≤ 256 := by omega
  have E1 := eqW_zero ha
  have E2 := eqW_same (wd a 0 : Nat) (wd a 1 : Nat) (wd a 2 : Nat) (wd a 3 : Nat)
  have E3 := eqW_same (wd (shiftN (shiftN a n) (-(n : Int))) 0 : Nat) (wd (shiftN (shiftN a n) (-(n : Int))) 1 : Nat) (wd (shiftN (shiftN a n) (-(n : Int))) 2 : Nat) (wd (shiftN (shiftN a n) (-(n : Int))) 3 : Nat)
  have E4 := neW_same (wd (shiftN a 1) 0 : Nat) (wd (shiftN a 1) 1 : Nat) (wd (shiftN a 1) 2 : Nat) (wd (shiftN a 1) 3 : Nat)
  have E5 := neW_same 0 0 0 0
  have E6 := neW_same 1 0 0 0
  clear hL hU hB
  generalize shiftN (shiftN a n) (-(n : Int)) = L at *
  generalize shiftN a n = U at *
  generalize shiftN a 1 = D at *
  generalize ((bitsN L : Nat) : Int) = M at *
  generalize ((bitsN U : Nat) : Int) = X at *
  generalize ((bitsN a : Nat) : Int) = B at *
  generalize mulOv a 2 = O at *
  have HC := Lib.hid cases3
  have HS := Lib.hid S1
  clear cases3 S1
  go_enter Try.func4, Try.ntmps4
  go_wp2_with fail
  refine (C1.out _).mono ?_
  rintro e w1 ⟨rfl, hb1⟩
  have hA1 := (IsBlk.new w 24 #[.int .u64 (wd a 0 : Nat), .int .u64 (wd a 1 : Nat), .int .u64 (wd a 2 : Nat), .int .u64 (wd a 3 : Nat)]).after hb1
  have B1 := ((Below.refl w.heap.size w).alloc (Nat.le_refl _) _).trans (hb1.mono (by simp))
  have l1 := hA1.lt
  have r0 := hA1.cell 0
  have r1 := hA1.cell 1
  have r2 := hA1.cell 2
  have r3 := hA1.cell 3
  simp at r0 r1 r2 r3
  have frr := hA1.free
  clear hb1
  go_wp2_with fail
  refine (C1.out _).mono ?_
  rintro e w2 ⟨rfl, hb2⟩
  have hA2 := (laid_old hA1 U).after hb2
  have hU2 := (laid_new w1 U).after hb2
  have B2 := bel_on (bel_laid B1 U) hb2
  clear hb2 r0 r1 r2 r3 frr hA1 B1
  go_wp2_with fail
  refine (C2.out _).mono ?_
  rintro e w3 ⟨rfl, hb3⟩
  have hA3 := hA2.after hb3
  have hU3 := hU2.after hb3
  have B3 := bel_on B2 hb3
  have l3 := hU3.lt
  have la3 := hA3.lt
  clear hb3 hA2 hU2 B2
  have r0 := hA3.cell 0
  have r1 := hA3.cell 1
  have r2 := hA3.cell 2
  have r3 := hA3.cell 3
  simp at r0 r1 r2 r3
  have frr := hA3.free
  have u0 := hU3.cell 0
  have u1 := hU3.cell 1
  have u2 := hU3.cell 2
  have u3 := hU3.cell 3
  simp at u0 u1 u2 u3
  have fru := hU3.free
  go_wp2_with fail
  refine (C3.out _).mono ?_
  rintro e w4 ⟨rfl, hb4⟩
  have hA4 := (laid_old hA3 L).after hb4
  have hU4 := (laid_old hU3 L).after hb4
  have hL4 := (laid_new w3 L).after hb4
  have B4 := bel_on (bel_laid B3 L) hb4
  have l4 := hL4.lt
  have la4 := hA4.lt
  clear hb4 hA3 hU3 B3 r0 r1 r2 r3 frr u0 u1 u2 u3 fru
  have r0 := hA4.cell 0
  have r1 := hA4.cell 1
  have r2 := hA4.cell 2
  have r3 := hA4.cell 3
  simp at r0 r1 r2 r3
  have frr := hA4.free
  go_wp2_with fail
  refine (C4.out _).mono ?_
  rintro e w5 ⟨rfl, hb5⟩
  have hA5 := (laid_old hA4 D).after hb5
  have hU5 := (laid_old hU4 D).after hb5
  have hL5 := (laid_old hL4 D).after hb5
  have hD5 := (laid_new w4 D).after hb5
  have B5 := bel_on (bel_laid B4 D) hb5
  have l5 := hD5.lt
  have la5 := hA5.lt
  clear hb5 hA4 hU4 hL4 B4 r0 r1 r2 r3 frr
  have r0 := hA5.cell 0
  have r1 := hA5.cell 1
  have r2 := hA5.cell 2
  have r3 := hA5.cell 3
  simp at r0 r1 r2 r3
  have frr := hA5.free
  have hbw : IntKind.i64.wrap (-B) = -B := IntWalk.i64_in _ (by omega)
  go_wp2_with fail
  refine (C5.out _).mono ?_
  rintro e w6 ⟨rfl, hb6⟩
  go_wp2_with fail
  refine (C6.out _).mono ?_
  rintro e w7 ⟨rfl, hb7⟩
  have hA7 := (hA5.after hb6).after hb7
  have hU7 := (hU5.after hb6).after hb7
  have hL7 := (hL5.after hb6).after hb7
  have hD7 := (hD5.after hb6).after hb7
  have B7 := bel_on (bel_on B5 hb6) hb7
  have HA7 := Lib.hid hA7
  have HU7 := Lib.hid hU7
  have HL7 := Lib.hid hL7
  have HD7 := Lib.hid hD7
  have HB7 := Lib.hid B7
  have hbw2 : IntKind.i64.wrap (1 - B) = 1 - B := IntWalk.i64_in _ (by omega)
  clear hb6 hb7 hA5 hU5 hL5 hD5 B5 r0 r1 r2 r3 frr hA7 hU7 hL7 hD7 B7
  go_wp2_with fail
  refine wp_gen (fun w' => IsBlk w' w.heap.size 24 #[.int .u64 (wd a 0 : Nat), .int .u64 (wd a 1 : Nat), .int .u64 (wd a 2 : Nat), .int .u64 (wd a 3 : Nat)] ∧ IsBlk w' w1.heap.size 24 #[.int .u64 (wd U 0 : Nat), .int .u64 (wd U 1 : Nat), .int .u64 (wd U 2 : Nat), .int .u64 (wd U 3 : Nat)] ∧
    IsBlk w' w3.heap.size 24 #[.int .u64 (wd L 0 : Nat), .int .u64 (wd L 1 : Nat), .int .u64 (wd L 2 : Nat), .int .u64 (wd L 3 : Nat)] ∧ IsBlk w' w4.heap.size 24 #[.int .u64 (wd D 0 : Nat), .int .u64 (wd D 1 : Nat), .int .u64 (wd D 2 : Nat), .int .u64 (wd D 3 : Nat)] ∧ IsBlk w' w7.heap.size 24 #[.int .u64 0, .int .u64 0, .int .u64 0, .int .u64 0] ∧ Below w.heap.size w w')
    ⟨HA7.out.alloc _, HU7.out.alloc _, HL7.out.alloc _, HD7.out.alloc _, IsBlk.new _ _ _, HB7.out.alloc HB7.out.size _⟩ ?_
  clear HA7 HU7 HL7 HD7 HB7 l1 l3 l4 l5 la3 la4 la5 hbw C3 C4 C5 C6
  rintro w8 ⟨hA, hU, hL, hD, hZ, hBel⟩
  have r0 := hA.cell 0
  have r1 := hA.cell 1
  have r2 := hA.cell 2
  have r3 := hA.cell 3
  simp at r0 r1 r2 r3
  have frr := hA.free
  have d0 := hD.cell 0
  have d1 := hD.cell 1
  have d2 := hD.cell 2
  have d3 := hD.cell 3
  simp at d0 d1 d2 d3
  have frd := hD.free
  have z0 := hZ.cell 0
  have z1 := hZ.cell 1
  have z2 := hZ.cell 2
  have z3 := hZ.cell 3
  simp at z0 z1 z2 z3
  have frz := hZ.free
  have la := hA.lt
  have ld := hD.lt
  have lz := hZ.lt
  generalize hgA : w.heap.size = gA at *
  generalize w1.heap.size = gU at *
  generalize w3.heap.size = gL at *
  generalize w4.heap.size = gD at *
  generalize w7.heap.size = gZ at *
  have HA := Lib.hid hA
  have HU := Lib.hid hU
  have HL := Lib.hid hL
  have HB := Lib.hid hBel
  clear hA hU hL hD hZ hBel frr frd frz
  have HX := HC.out
  clear HC
  obtain ⟨hBa, hBb⟩ := hB0
  have hsum : IntKind.i64.wrap (B + (n : Int)) = B + n := IntWalk.i64_in _ (by omega)
  have hng : IntKind.i64.wrap (-(n : Int)) = -(n : Int) := IntWalk.i64_in _ (by omega)
  have hsb : IntKind.i64.wrap (256 - (n : Int)) = 256 - (n : Int) := IntWalk.i64_in _ (by omega)
  rcases HX with ⟨h0, hb0, hLa⟩ | ⟨h0, hbn, hLa, hX⟩ | ⟨h0, hbn, hM⟩
  · subst hb0
    clear HS C1 C2 hng hsb
    have E1' : ∀ w, (binOp .eql 24 (.agg #[.int .u64 (wd a 0 : Nat), .int .u64 (wd a 1 : Nat), .int .u64 (wd a 2 : Nat), .int .u64 (wd a 3 : Nat)]) (.agg #[.int .u64 0, .int .u64 0, .int .u64 0, .int .u64 0])).run Try.prog w = .ok (.bool true) w := fun w => by rw [E1, decide_eq_true h0]
    have hle : (n : Int) ≤ 256 := by omega
    clear E1 E3 h0
    have hLs := hLa.symm
    subst hLs
    clear hLa
    refine wp_region_held_drew (S := fun w' => w'.cell? ⟨gA, 0, none⟩ = some (.int .u64 (wd a 0 : Nat)) ∧ w'.cell? ⟨gA, 1, none⟩ = some (.int .u64 (wd a 1 : Nat)) ∧ w'.cell? ⟨gA, 2, none⟩ = some (.int .u64 (wd a 2 : Nat)) ∧ w'.cell? ⟨gA, 3, none⟩ = some (.int .u64 (wd a 3 : Nat)) ∧ w'.cell? ⟨gD, 0, none⟩ = some (.int .u64 (wd D 0 : Nat)) ∧ w'.cell? ⟨gD, 1, none⟩ = some (.int .u64 (wd D 1 : Nat)) ∧ w'.cell? ⟨gD, 2, none⟩ = some (.int .u64 (wd D 2 : Nat)) ∧ w'.cell? ⟨gD, 3, none⟩ = some (.int .u64 (wd D 3 : Nat)) ∧ w'.cell? ⟨gZ, 0, none⟩ = some (.int .u64 0) ∧ w'.cell? ⟨gZ, 1, none⟩ = some (.int .u64 0) ∧ w'.cell? ⟨gZ, 2, none⟩ = some (.int .u64 0) ∧ w'.cell? ⟨gZ, 3, none⟩ = some (.int .u64 0)) (by kernel_rfl) ?_ (fun hHeld => ?_)
    · go_keep
    refine wpAnyH_take (i := 0) (oi := { dst := some 36, op := Op.load 24 (Operand.tmp 2), type := 24, pos := "outright.go:89", after := #[], guard := none }) (v := ?_) rfl (by kernel_rfl) (by kernel_rfl) (by kernel_rfl) (fun _ _ _ h => h) (Or.inl ⟨by rfl, ?_⟩) (by assumption) ?_
    rotate_left
    · intro w hSw; (try dsimp only at hSw); go_simp
      all_goals with_reducible rfl
    simp only [Act.put]
    try simp only [List.setIfInBounds_toArray]
    try simp only [List.set_cons_succ, List.set_cons_zero]
    refine wpAnyH_take (i := 2) (oi := { dst := some 38, op := Op.load 24 (Operand.tmp 8), type := 24, pos := "outright.go:89", after := #[], guard := none }) (v := ?_) rfl (by kernel_rfl) (by kernel_rfl) (by kernel_rfl) (fun _ _ _ h => h) (Or.inl ⟨by rfl, ?_⟩) (by assumption) ?_
    rotate_left
    · intro w hSw; (try dsimp only at hSw); go_simp
      all_goals with_reducible rfl
    simp only [Act.put]
    try simp only [List.setIfInBounds_toArray]
    try simp only [List.set_cons_succ, List.set_cons_zero]
    refine wpAnyH_ready (rs := [1]) (by kernel_rfl) (by simp) ?_
    refine AllReadyH.cons (o := { dst := some 37, op := Op.call { callee := Callee.value (Operand.func 11), args := #[Operand.tmp 36, Operand.const (Value.int IntKind.i64 1)], argTypes := #[24, 3] }, type := 24, pos := "outright.go:89", after := #[{ on := 0, ground := Ground.data }], guard := none }) rfl (fun K hK => ?_) AllReadyH.nil
    go_simp
    refine (C7.out _).mono ?_
    rintro e wx ⟨rfl, hbx⟩
    go_wp2_with fail
    refine hK.out _ _ ?_ (fun hHeld => ?_)
    · refine ⟨?_, ?_, ?_, ?_, ?_, ?_, ?_, ?_, ?_, ?_, ?_, ?_⟩ <;> (refine cell_later hbx ?_; go_keep)
    clear hK K
    refine wpAnyH_take (i := 3) (oi := { dst := some 39, op := Op.binOp BinOp.neq 24 (Operand.tmp 37) (Operand.tmp 38) 24, type := 4, pos := "outright.go:89", after := #[{ on := 1, ground := Ground.data }, { on := 2, ground := Ground.data }], guard := none }) (v := ?_) rfl (by kernel_rfl) (by kernel_rfl) (by kernel_rfl) (fun _ _ _ h => h) (Or.inl ⟨by rfl, ?_⟩) (by assumption) ?_
    rotate_left
    · intro w hSw; (try dsimp only at hSw); go_simp
      all_goals with_reducible rfl
    simp only [Act.put]
    try simp only [List.setIfInBounds_toArray]
    try simp only [List.set_cons_succ, List.set_cons_zero]
    refine wpAnyH_take (i := 4) (oi := { dst := some 40, op := Op.move (Operand.tmp 39), type := 4, pos := "outright.go:89", after := #[{ on := 3, ground := Ground.data }, { on := 1, ground := Ground.chain }], guard := none }) (v := ?_) rfl (by kernel_rfl) (by kernel_rfl) (by kernel_rfl) (fun _ _ _ h => h) (Or.inl ⟨by rfl, ?_⟩) (by assumption) ?_
    rotate_left
    · intro w hSw; (try dsimp only at hSw); go_simp
      all_goals with_reducible rfl
    simp only [Act.put]
    try simp only [List.setIfInBounds_toArray]
    try simp only [List.set_cons_succ, List.set_cons_zero]
    refine wpAnyH_take (i := 5) (oi := { dst := some 41, op := Op.load 24 (Operand.tmp 11), type := 24, pos := "outright.go:89", after := #[{ on := 4, ground := Ground.guard }], guard := some (4, false) }) (v := ?_) rfl (by kernel_rfl) (by kernel_rfl) (by kernel_rfl) (fun _ _ _ h => h) (Or.inl ⟨by rfl, ?_⟩) (by assumption) ?_
    rotate_left
    · intro w hSw; (try dsimp only at hSw); go_simp
      all_goals with_reducible rfl
    simp only [Act.put]
    try simp only [List.setIfInBounds_toArray]
    try simp only [List.set_cons_succ, List.set_cons_zero]
    refine wpAnyH_take (i := 6) (oi := { dst := some 42, op := Op.build 24 #[], type := 24, pos := "outright.go:89", after := #[{ on := 4, ground := Ground.guard }], guard := some (4, false) }) (v := ?_) rfl (by kernel_rfl) (by kernel_rfl) (by kernel_rfl) (fun _ _ _ h => h) (Or.inl ⟨by rfl, ?_⟩) (by assumption) ?_
    rotate_left
    · intro w hSw; (try dsimp only at hSw); go_simp
      all_goals with_reducible rfl
    simp only [Act.put]
    try simp only [List.setIfInBounds_toArray]
    try simp only [List.set_cons_succ, List.set_cons_zero]
    refine wpAnyH_take (i := 7) (oi := { dst := some 43, op := Op.binOp BinOp.neq 24 (Operand.tmp 41) (Operand.tmp 42) 24, type := 4, pos := "outright.go:89", after := #[{ on := 5, ground := Ground.data }, { on := 6, ground := Ground.data }, { on := 4, ground := Ground.guard }], guard := some (4, false) }) (v := ?_) rfl (by kernel_rfl) (by kernel_rfl) (by kernel_rfl) (fun _ _ _ h => h) (Or.inl ⟨by rfl, ?_⟩) (by assumption) ?_
    rotate_left
    · intro w hSw; (try dsimp only at hSw); go_simp
      all_goals with_reducible rfl
    simp only [Act.put]
    try simp only [List.setIfInBounds_toArray]
    try simp only [List.set_cons_succ, List.set_cons_zero]
    refine wpAnyH_take (i := 8) (oi := { dst := some 44, op := Op.pick (Operand.tmp 40) (Operand.const (Value.bool true)) (Operand.tmp 43), type := 4, pos := "outright.go:89", after := #[{ on := 4, ground := Ground.data }, { on := 7, ground := Ground.data }], guard := none }) (v := ?_) rfl (by kernel_rfl) (by kernel_rfl) (by kernel_rfl) (fun _ _ _ h => h) (Or.inl ⟨by rfl, ?_⟩) (by assumption) ?_
    rotate_left
    · intro w hSw; (try dsimp only at hSw); go_simp
      all_goals with_reducible rfl
    simp only [Act.put]
    try simp only [List.setIfInBounds_toArray]
    try simp only [List.set_cons_succ, List.set_cons_zero]
    refine wpAnyH_take (i := 9) (oi := { dst := some 45, op := Op.move (Operand.tmp 44), type := 4, pos := "outright.go:89", after := #[{ on := 8, ground := Ground.data }, { on := 4, ground := Ground.chain }], guard := none }) (v := ?_) rfl (by kernel_rfl) (by kernel_rfl) (by kernel_rfl) (fun _ _ _ h => h) (Or.inl ⟨by rfl, ?_⟩) (by assumption) ?_
    rotate_left
    · intro w hSw; (try dsimp only at hSw); go_simp
      all_goals with_reducible rfl
    simp only [Act.put]
    try simp only [List.setIfInBounds_toArray]
    try simp only [List.set_cons_succ, List.set_cons_zero]
    refine wpAnyH_take (i := 10) (oi := { dst := some 46, op := Op.move (Operand.tmp 10), type := 3, pos := "outright.go:89", after := #[{ on := 9, ground := Ground.guard }], guard := some (9, false) }) (v := ?_) rfl (by kernel_rfl) (by kernel_rfl) (by kernel_rfl) (fun _ _ _ h => h) (Or.inl ⟨by rfl, ?_⟩) (by assumption) ?_
    rotate_left
    · intro w hSw; (try dsimp only at hSw); go_simp
      all_goals with_reducible rfl
    simp only [Act.put]
    try simp only [List.setIfInBounds_toArray]
    try simp only [List.set_cons_succ, List.set_cons_zero]
    refine wpAnyH_take (i := 11) (oi := { dst := some 47, op := Op.binOp BinOp.gtr 3 (Operand.tmp 46) (Operand.const (Value.int IntKind.i64 0)) 3, type := 4, pos := "outright.go:89", after := #[{ on := 10, ground := Ground.data }, { on := 9, ground := Ground.guard }], guard := some (9, false) }) (v := ?_) rfl (by kernel_rfl) (by kernel_rfl) (by kernel_rfl) (fun _ _ _ h => h) (Or.inl ⟨by rfl, ?_⟩) (by assumption) ?_
    rotate_left
    · intro w hSw; (try dsimp only at hSw); go_simp
      all_goals with_reducible rfl
    simp only [Act.put]
    try simp only [List.setIfInBounds_toArray]
    try simp only [List.set_cons_succ, List.set_cons_zero]
    refine wpAnyH_take (i := 12) (oi := { dst := some 48, op := Op.move (Operand.tmp 47), type := 4, pos := "outright.go:89", after := #[{ on := 11, ground := Ground.data }, { on := 9, ground := Ground.chain }, { on := 9, ground := Ground.guard }], guard := some (9, false) }) (v := ?_) rfl (by kernel_rfl) (by kernel_rfl) (by kernel_rfl) (fun _ _ _ h => h) (Or.inl ⟨by rfl, ?_⟩) (by assumption) ?_
    rotate_left
    · intro w hSw; (try dsimp only at hSw); go_simp
      all_goals with_reducible rfl
    simp only [Act.put]
    try simp only [List.setIfInBounds_toArray]
    try simp only [List.set_cons_succ, List.set_cons_zero]
    refine wpAnyH_take (i := 13) (oi := { dst := some 49, op := Op.load 24 (Operand.tmp 2), type := 24, pos := "outright.go:89", after := #[{ on := 12, ground := Ground.guard }], guard := some (12, true) }) (v := undef) rfl (by kernel_rfl) (by kernel_rfl) (by kernel_rfl) (fun _ _ _ h => h) (Or.inr ⟨by rfl, rfl⟩) (by assumption) ?_
    simp only [Act.put]
    try simp only [List.setIfInBounds_toArray]
    try simp only [List.set_cons_succ, List.set_cons_zero]
    refine wpAnyH_take (i := 14) (oi := { dst := some 50, op := Op.move (Operand.tmp 10), type := 3, pos := "outright.go:89", after := #[{ on := 12, ground := Ground.guard }], guard := some (12, true) }) (v := undef) rfl (by kernel_rfl) (by kernel_rfl) (by kernel_rfl) (fun _ _ _ h => h) (Or.inr ⟨by rfl, rfl⟩) (by assumption) ?_
    simp only [Act.put]
    try simp only [List.setIfInBounds_toArray]
    try simp only [List.set_cons_succ, List.set_cons_zero]
    refine wpAnyH_take (i := 15) (oi := { dst := some 51, op := Op.binOp BinOp.sub 3 (Operand.const (Value.int IntKind.i64 1)) (Operand.tmp 50) 3, type := 3, pos := "outright.go:89", after := #[{ on := 14, ground := Ground.data }, { on := 12, ground := Ground.guard }], guard := some (12, true) }) (v := undef) rfl (by kernel_rfl) (by kernel_rfl) (by kernel_rfl) (fun _ _ _ h => h) (Or.inr ⟨by rfl, rfl⟩) (by assumption) ?_
    simp only [Act.put]
    try simp only [List.setIfInBounds_toArray]
    try simp only [List.set_cons_succ, List.set_cons_zero]
    refine wpAnyH_take (i := 16) (oi := { dst := some 52, op := Op.call { callee := Callee.value (Operand.func 11), args := #[Operand.tmp 49, Operand.tmp 51], argTypes := #[24, 3] }, type := 24, pos := "outright.go:89", after := #[{ on := 13, ground := Ground.data }, { on := 15, ground := Ground.data }, { on := 12, ground := Ground.chain }, { on := 12, ground := Ground.guard }], guard := some (12, true) }) (v := undef) rfl (by kernel_rfl) (by kernel_rfl) (by kernel_rfl) (fun _ _ _ h => h) (Or.inr ⟨by rfl, rfl⟩) (by assumption) ?_
    simp only [Act.put]
    try simp only [List.setIfInBounds_toArray]
    try simp only [List.set_cons_succ, List.set_cons_zero]
    refine wpAnyH_take (i := 17) (oi := { dst := some 53, op := Op.call { callee := Callee.value (Operand.func 17), args := #[Operand.const (Value.int IntKind.u64 1)], argTypes := #[22] }, type := 24, pos := "outright.go:89", after := #[{ on := 16, ground := Ground.chain }, { on := 12, ground := Ground.guard }], guard := some (12, true) }) (v := undef) rfl (by kernel_rfl) (by kernel_rfl) (by kernel_rfl) (fun _ _ _ h => h) (Or.inr ⟨by rfl, rfl⟩) (by assumption) ?_
    simp only [Act.put]
    try simp only [List.setIfInBounds_toArray]
    try simp only [List.set_cons_succ, List.set_cons_zero]
    refine wpAnyH_take (i := 18) (oi := { dst := some 54, op := Op.binOp BinOp.neq 24 (Operand.tmp 52) (Operand.tmp 53) 24, type := 4, pos := "outright.go:89", after := #[{ on := 16, ground := Ground.data }, { on := 17, ground := Ground.data }, { on := 12, ground := Ground.guard }], guard := some (12, true) }) (v := undef) rfl (by kernel_rfl) (by kernel_rfl) (by kernel_rfl) (fun _ _ _ h => h) (Or.inr ⟨by rfl, rfl⟩) (by assumption) ?_
    simp only [Act.put]
    try simp only [List.setIfInBounds_toArray]
    try simp only [List.set_cons_succ, List.set_cons_zero]
    refine wpAnyH_take (i := 19) (oi := { dst := some 55, op := Op.pick (Operand.tmp 48) (Operand.tmp 54) (Operand.const (Value.bool false)), type := 4, pos := "outright.go:89", after := #[{ on := 12, ground := Ground.data }, { on := 18, ground := Ground.data }, { on := 9, ground := Ground.guard }], guard := some (9, false) }) (v := ?_) rfl (by kernel_rfl) (by kernel_rfl) (by kernel_rfl) (fun _ _ _ h => h) (Or.inl ⟨by rfl, ?_⟩) (by assumption) ?_
    rotate_left
    · intro w hSw; (try dsimp only at hSw); go_simp
      all_goals with_reducible rfl
    simp only [Act.put]
    try simp only [List.setIfInBounds_toArray]
    try simp only [List.set_cons_succ, List.set_cons_zero]
    refine wpAnyH_take (i := 20) (oi := { dst := some 56, op := Op.pick (Operand.tmp 45) (Operand.const (Value.bool true)) (Operand.tmp 55), type := 4, pos := "outright.go:89", after := #[{ on := 9, ground := Ground.data }, { on := 19, ground := Ground.data }], guard := none }) (v := ?_) rfl (by kernel_rfl) (by kernel_rfl) (by kernel_rfl) (fun _ _ _ h => h) (Or.inl ⟨by rfl, ?_⟩) (by assumption) ?_
    rotate_left
    · intro w hSw; (try dsimp only at hSw); go_simp
      all_goals with_reducible rfl
    simp only [Act.put]
    try simp only [List.setIfInBounds_toArray]
    try simp only [List.set_cons_succ, List.set_cons_zero]
    refine wpAnyH_done (by kernel_rfl) ?_ _
    have hL9 := HL.out.drew.after hbx
    have hA9 := HA.out.drew.after hbx
    have B9 := bel_on (hgA ▸ HB.out.drew) hbx
    have x0 := hL9.cell 0
    have x1 := hL9.cell 1
    have x2 := hL9.cell 2
    have x3 := hL9.cell 3
    simp at x0 x1 x2 x3
    have frx := hL9.free
    have y0 := hA9.cell 0
    have y1 := hA9.cell 1
    have y2 := hA9.cell 2
    have y3 := hA9.cell 3
    simp at y0 y1 y2 y3
    have fry := hA9.free
    clear hbx frx fry hL9 hA9 r0 r1 r2 r3 d0 d1 d2 d3 z0 z1 z2 z3
    go_wp2_with fail
    refine (AW.out _).mono ?_
    rintro e w9 ⟨rfl, hb9⟩
    go_wp2_with fail
    go_ret
    exact ⟨rfl, bel_on B9 hb9⟩
  · obtain ⟨hb1, hs⟩ := HS.out h0
    obtain ⟨c, hc⟩ : ∃ c : Int, c = 1 - B := ⟨_, rfl⟩
    have hbw3 : IntKind.i64.wrap (1 - B) = c := hbw2.trans hc.symm
    rw [← hc] at hs
    have HS1 := Lib.hid hs
    have hpos : (0 : Int) < B := by omega
    clear hb1 HS hs hc hbw2
    clear C1 C2 hng hsb
    have E1' : ∀ w, (binOp .eql 24 (.agg #[.int .u64 (wd a 0 : Nat), .int .u64 (wd a 1 : Nat), .int .u64 (wd a 2 : Nat), .int .u64 (wd a 3 : Nat)]) (.agg #[.int .u64 0, .int .u64 0, .int .u64 0, .int .u64 0])).run Try.prog w = .ok (.bool false) w := fun w => by rw [E1, decide_eq_false h0]
    have hLs := hLa.symm
    subst hLs
    subst hX
    clear hLa E1 E3 h0
    go_region_held3 (fun w' => w'.cell? ⟨gA, 0, none⟩ = some (.int .u64 (wd a 0 : Nat)) ∧ w'.cell? ⟨gA, 1, none⟩ = some (.int .u64 (wd a 1 : Nat)) ∧ w'.cell? ⟨gA, 2, none⟩ = some (.int .u64 (wd a 2 : Nat)) ∧ w'.cell? ⟨gA, 3, none⟩ = some (.int .u64 (wd a 3 : Nat)) ∧ w'.cell? ⟨gD, 0, none⟩ = some (.int .u64 (wd D 0 : Nat)) ∧ w'.cell? ⟨gD, 1, none⟩ = some (.int .u64 (wd D 1 : Nat)) ∧ w'.cell? ⟨gD, 2, none⟩ = some (.int .u64 (wd D 2 : Nat)) ∧ w'.cell? ⟨gD, 3, none⟩ = some (.int .u64 (wd D 3 : Nat)) ∧ w'.cell? ⟨gZ, 0, none⟩ = some (.int .u64 0) ∧ w'.cell? ⟨gZ, 1, none⟩ = some (.int .u64 0) ∧ w'.cell? ⟨gZ, 2, none⟩ = some (.int .u64 0) ∧ w'.cell? ⟨gZ, 3, none⟩ = some (.int .u64 0)) (first | go_keep | (refine ⟨?_, ?_, ?_, ?_, ?_, ?_, ?_, ?_, ?_, ?_, ?_, ?_⟩ <;> (refine cell_later hbx ?_; go_keep))) (first | (go_at_call_of 11 c; refine (HS1.out _).mono ?_; rintro e wx0 ⟨rfl, hbx⟩) | (go_at_call 11; refine (C7.out _).mono ?_; rintro e wx1 ⟨rfl, hbx⟩) | (go_at_call 17; refine (C8.out _).mono ?_; rintro e wx2 ⟨rfl, hbx⟩))
    rename_i hx1 hx0 _
    have hL9 := ((HL.out.drew.after hx1).after hx0).after hbx
    have hA9 := ((HA.out.drew.after hx1).after hx0).after hbx
    have hU9 := ((HU.out.drew.after hx1).after hx0).after hbx
    have B9 := bel_on (bel_on (bel_on (hgA ▸ HB.out.drew) hx1) hx0) hbx
    have lA := hA9.lt
    have lL := hL9.lt
    have lU := hU9.lt
    have x0 := hL9.cell 0
    have x1 := hL9.cell 1
    have x2 := hL9.cell 2
    have x3 := hL9.cell 3
    simp at x0 x1 x2 x3
    have frx := hL9.free
    have y0 := hA9.cell 0
    have y1 := hA9.cell 1
    have y2 := hA9.cell 2
    have y3 := hA9.cell 3
    simp at y0 y1 y2 y3
    have fry := hA9.free
    have v0 := hU9.cell 0
    have v1 := hU9.cell 1
    have v2 := hU9.cell 2
    have v3 := hU9.cell 3
    simp at v0 v1 v2 v3
    have frv := hU9.free
    clear hbx hx1 hx0 frx fry frv hL9 hA9 hU9 r0 r1 r2 r3 d0 d1 d2 d3 z0 z1 z2 z3 C7 C8 HS1 E4 E5 E6 HL HA HU HB la ld lz hbw3
    go_wp2_with fail
    refine (C9.out _).mono ?_
    rintro e w9 ⟨rfl, hb9⟩
    go_wp2_with fail
    refine (AW.out _).mono ?_
    rintro e w10 ⟨rfl, hb10⟩
    go_wp2_with fail
    go_ret
    exact ⟨rfl, bel_on (bel_on B9 hb9) hb10⟩
  · obtain ⟨hb1, hs⟩ := HS.out h0
    obtain ⟨c, hc⟩ : ∃ c : Int, c = 1 - B := ⟨_, rfl⟩
    have hbw3 : IntKind.i64.wrap (1 - B) = c := hbw2.trans hc.symm
    rw [← hc] at hs
    have HS1 := Lib.hid hs
    have hpos : (0 : Int) < B := by omega
    clear hb1 HS hs hc hbw2
    have hbn' : ¬ B + (n : Int) ≤ 256 := by omega
    obtain ⟨nn, hnn⟩ : ∃ nn : Int, nn = -(n : Int) := ⟨_, rfl⟩
    rw [← hnn] at C2
    have hng' : IntKind.i64.wrap (-(n : Int)) = nn := hng.trans hnn.symm
    clear E1 E2 h0 hnn hng
    go_region_held3 (fun w' => w'.cell? ⟨gA, 0, none⟩ = some (.int .u64 (wd a 0 : Nat)) ∧ w'.cell? ⟨gA, 1, none⟩ = some (.int .u64 (wd a 1 : Nat)) ∧ w'.cell? ⟨gA, 2, none⟩ = some (.int .u64 (wd a 2 : Nat)) ∧ w'.cell? ⟨gA, 3, none⟩ = some (.int .u64 (wd a 3 : Nat)) ∧ w'.cell? ⟨gD, 0, none⟩ = some (.int .u64 (wd D 0 : Nat)) ∧ w'.cell? ⟨gD, 1, none⟩ = some (.int .u64 (wd D 1 : Nat)) ∧ w'.cell? ⟨gD, 2, none⟩ = some (.int .u64 (wd D 2 : Nat)) ∧ w'.cell? ⟨gD, 3, none⟩ = some (.int .u64 (wd D 3 : Nat)) ∧ w'.cell? ⟨gZ, 0, none⟩ = some (.int .u64 0) ∧ w'.cell? ⟨gZ, 1, none⟩ = some (.int .u64 0) ∧ w'.cell? ⟨gZ, 2, none⟩ = some (.int .u64 0) ∧ w'.cell? ⟨gZ, 3, none⟩ = some (.int .u64 0)) (first | go_keep | (refine ⟨?_, ?_, ?_, ?_, ?_, ?_, ?_, ?_, ?_, ?_, ?_, ?_⟩ <;> (refine cell_later hbx ?_; go_keep))) (first | (go_at_call_of 11 c; refine (HS1.out _).mono ?_; rintro e wx0 ⟨rfl, hbx⟩) | (go_at_call 11; refine (C7.out _).mono ?_; rintro e wx1 ⟨rfl, hbx⟩) | (go_at_call 17; refine (C8.out _).mono ?_; rintro e wx2 ⟨rfl, hbx⟩))
    rename_i hx1 hx0 _
    have hL9 := ((HL.out.drew.after hx1).after hx0).after hbx
    have hA9 := ((HA.out.drew.after hx1).after hx0).after hbx
    have hU9 := ((HU.out.drew.after hx1).after hx0).after hbx
    have B9 := bel_on (bel_on (bel_on (hgA ▸ HB.out.drew) hx1) hx0) hbx
    have lA := hA9.lt
    have lL := hL9.lt
    have lU := hU9.lt
    have x0 := hL9.cell 0
    have x1 := hL9.cell 1
    have x2 := hL9.cell 2
    have x3 := hL9.cell 3
    simp at x0 x1 x2 x3
    have frx := hL9.free
    have y0 := hA9.cell 0
    have y1 := hA9.cell 1
    have y2 := hA9.cell 2
    have y3 := hA9.cell 3
    simp at y0 y1 y2 y3
    have fry := hA9.free
    have v0 := hU9.cell 0
    have v1 := hU9.cell 1
    have v2 := hU9.cell 2
    have v3 := hU9.cell 3
    simp at v0 v1 v2 v3
    have frv := hU9.free
    clear hbx hx1 hx0 frx fry frv hL9 hA9 hU9 r0 r1 r2 r3 d0 d1 d2 d3 z0 z1 z2 z3 C7 C8 HS1 E4 E5 E6 HL HA HU HB la ld lz hbw3
    go_wp2_with fail
    go_region_held3 (fun w' => w'.cell? ⟨gL, 0, none⟩ = some (.int .u64 (wd L 0 : Nat)) ∧ w'.cell? ⟨gL, 1, none⟩ = some (.int .u64 (wd L 1 : Nat)) ∧ w'.cell? ⟨gL, 2, none⟩ = some (.int .u64 (wd L 2 : Nat)) ∧ w'.cell? ⟨gL, 3, none⟩ = some (.int .u64 (wd L 3 : Nat)) ∧ w'.cell? ⟨gA, 0, none⟩ = some (.int .u64 (wd a 0 : Nat)) ∧ w'.cell? ⟨gA, 1, none⟩ = some (.int .u64 (wd a 1 : Nat)) ∧ w'.cell? ⟨gA, 2, none⟩ = some (.int .u64 (wd a 2 : Nat)) ∧ w'.cell? ⟨gA, 3, none⟩ = some (.int .u64 (wd a 3 : Nat))) (first | go_keep | (refine ⟨?_, ?_, ?_, ?_, ?_, ?_, ?_, ?_⟩ <;> (refine cell_later hbx ?_; go_keep))) (first | (go_at_call_of 11 nn; refine (C2.out _).mono ?_; rintro e wx0 ⟨rfl, hbx⟩) | (go_at_call 11; refine (C1.out _).mono ?_; rintro e wx1 ⟨rfl, hbx⟩) | (go_at_call 13; refine (C10.out _).mono ?_; rintro e wx2 ⟨rfl, hbx⟩) | (go_at_call 15; refine (AW.out _).mono ?_; rintro e wx3 ⟨rfl, hbx⟩))
    rename_i hy1 hy0 hy2 _
    go_wp2_with fail
    go_ret
    exact ⟨rfl, bel_on (bel_on (bel_on (bel_on B9.drew hy1) hy0) hy2) hbx⟩
theorem law_WideMoves {H : Type} {enc : TypeId × Value → H} (W : World) (base : Nat) (v0 v1 : Value) (d0 d1 : DataW H) (p0 p1 : List MemPlace)
    (h0 : DataW.Trod enc Try.prog W 0 (fun _ => true) true 24 v0 d0 p0) (h1 : DataW.Trod enc Try.prog W 0 (fun _ => true) true 5 v1 d1 p1)
    (o0 : Value.okWide Try.prog W .any base 24 v0) (o1 : Value.okWide Try.prog W .any base 5 v1) :
    Calls Try.prog 4 #[v0, v1] W fun e w' => e = .returned (.bool true) ∧ Below W.heap.size W w' := by
  obtain ⟨zs, hl, rfl, hz⟩ := in_array Try.underlying24 Try.underlying22 (by kernel_rfl) (by kernel_rfl) h0 o0
  obtain ⟨c, rfl, hc⟩ := in_int Try.underlying5 h1 o1
  obtain ⟨a, ha, e⟩ := wide_of hl hz
  rw [e]
  have hc := wf_u8 hc
  obtain ⟨n, rfl⟩ := Int.eq_ofNat_of_zero_le hc.1
  exact moves_walk a n W ha (by omega)
end Go.Proofs.Ytncfgllcleidnaa
