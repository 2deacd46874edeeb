/- The law PosKnown: the chapter's examples. Printed by gen11k.py. -/
import Derived.Test.YtpicfccgfkemlaaPosV
namespace Go.Proofs.Ytpicfccgfkemlaa
open Go.RowKit Go.Shelf

theorem wp_gen {P : Program} {c : Code} {Q : Exit → Act → World → Prop} {a : Act} {w : World} (S : World → Prop) (h : S w) (k : ∀ w', S w' → c.wp P Q a w') : c.wp P Q a w := k w h
theorem no_any (p : Int) (b : Bool) (w : World) : Calls Try.prog 35 #[.int .u64 p, .bool b] w (QRet (.bool (!b && (p == 0))) w) := by
  cases b
  · go_enter Try.func35, Try.ntmps35
    go_wp2_with fail
    go_ret
    exact ⟨by simp, 0, rfl⟩
  · go_enter Try.func35, Try.ntmps35
    go_wp2_with fail
    go_ret
    exact ⟨by simp, 0, rfl⟩

theorem kn_a1 (w : World) : Calls Try.prog 10 #[.int .u64 8] w (QRet (.tuple #[.int .i64 3, .bool true]) w) := to_q (rows_yes 8 w (by decide))
theorem kn_a2 (w : World) : Calls Try.prog 10 #[.int .u64 9] w (QRet (.tuple #[.int .i64 4, .bool true]) w) := to_q (rows_yes 9 w (by decide))
theorem kn_a3 (w : World) : Calls Try.prog 10 #[.int .u64 0] w (QRet (.tuple #[.int .i64 0, .bool true]) w) := to_q (rows_yes 0 w (by decide))
theorem kn_a4 (w : World) : Calls Try.prog 10 #[.int .u64 9223372036854775808] w (QRet (.tuple #[.int .i64 0, .bool false]) w) := to_q (rows_no 9223372036854775808 w (by decide))
theorem kn_b1 (w : World) : Calls Try.prog 20 #[.int .i64 1, .int .i64 3] w (QRet (.tuple #[.int .u64 8, .bool true]) w) := Begin_yes 1 3 w (by decide) (by decide)
theorem kn_b2 (w : World) : Calls Try.prog 20 #[.int .i64 3, .int .i64 3] w (QRet (.tuple #[.int .u64 14, .bool true]) w) := Begin_yes 3 3 w (by decide) (by decide)
theorem kn_b3 (w : World) : Calls Try.prog 25 #[.int .u64 11, .int .i64 3] w (QRet (.tuple #[.int .u64 6, .bool true]) w) := to_q (left_yes 11 3 w (by decide) (by decide) (by decide))
theorem kn_b4 (w : World) : Calls Try.prog 27 #[.int .u64 10, .int .i64 3] w (QRet (.tuple #[.int .u64 11, .bool true]) w) := to_q (sib_yes 10 3 w (by decide) (by decide))
theorem kn_b5 (w : World) : Calls Try.prog 19 #[.int .u64 14, .int .i64 3] w (QRet (.tuple #[.int .u64 0, .bool false]) w) := to_q (parent_no 14 3 w (by decide) (by rintro ⟨_, h⟩; revert h; decide))
theorem kn_b6 (w : World) : Calls Try.prog 25 #[.int .u64 3, .int .i64 3] w (QRet (.tuple #[.int .u64 0, .bool false]) w) := to_q (left_no 3 3 w (by decide) (by rintro ⟨_, h⟩; revert h; decide))
theorem kn_c0 (w : World) : Calls Try.prog 18 #[.int .u64 15, .int .i64 3] w (QRet (.tuple #[.int .i64 0, .bool false]) w) := to_q (row_no 15 3 w (by decide) (by rintro ⟨_, _, h⟩; revert h; decide))
theorem kn_c1 (w : World) : Calls Try.prog 12 #[.int .u64 7, .int .i64 1] w (QRet (.tuple #[.int .u64 10, .bool true]) w) := root_yes 7 1 w (by decide) (by decide)
theorem kn_c2 (w : World) : Calls Try.prog 12 #[.int .u64 7, .int .i64 0] w (QRet (.tuple #[.int .u64 6, .bool true]) w) := root_yes 7 0 w (by decide) (by decide)
theorem kn_c3 (w : World) : Calls Try.prog 12 #[.int .u64 4, .int .i64 1] w (QRet (.tuple #[.int .u64 0, .bool false]) w) := root_no 4 1 w (by decide) (by rintro ⟨_, _, h⟩; revert h; decide)
theorem kn_d4 (w : World) : Calls Try.prog 17 #[.int .u64 8, .int .i64 3, .int .i64 4] w (QRet (.tuple #[.int .u64 16, .bool true]) w) := remap_yes 8 3 4 w (by decide) (by decide) (by decide) ⟨by decide, by decide⟩
theorem kn_d5 (w : World) : Calls Try.prog 17 #[.int .u64 14, .int .i64 3, .int .i64 2] w (QRet (.tuple #[.int .u64 0, .bool false]) w) := remap_no 14 3 2 w (by decide) (by rintro ⟨_, _, _, h, _⟩; revert h; decide)
theorem kn_e1 (w : World) : Calls Try.prog 30 #[.int .u64 1, .int .u64 12, .int .i64 3] w (QRet (.bool true) w) := by
  have h := within_any 1 12 3 w (by decide) (by decide)
  rwa [show WithinB 1 12 3 = true from by decide] at h
theorem kn_e2 (w : World) : Calls Try.prog 30 #[.int .u64 12, .int .u64 1, .int .i64 3] w (QRet (.bool false) w) := by
  have h := within_any 12 1 3 w (by decide) (by decide)
  rwa [show WithinB 12 1 3 = false from by decide] at h
theorem kn_e3 (w : World) : Calls Try.prog 30 #[.int .u64 12, .int .u64 12, .int .i64 3] w (QRet (.bool false) w) := by
  have h := within_any 12 12 3 w (by decide) (by decide)
  rwa [show WithinB 12 12 3 = false from by decide] at h
theorem kn_t1 (w : World) : Calls Try.prog 33 #[.int .u64 7, .int .u64 9] w (NRet (.tuple #[.int .i64 2, .bool true]) w) := tree_yes 7 9 w (by decide)
theorem kn_t2 (w : World) : Calls Try.prog 33 #[.int .u64 7, .int .u64 5] w (NRet (.tuple #[.int .i64 1, .bool true]) w) := tree_yes 7 5 w (by decide)
theorem kn_t3 (w : World) : Calls Try.prog 33 #[.int .u64 7, .int .u64 7] w (NRet (.tuple #[.int .i64 0, .bool false]) w) := tree_no 7 7 w (by decide) (by decide) (by decide)
theorem kn_w (w : World) : Calls Try.prog 34 #[.int .u64 7, .int .u64 1] w (ListRet .u64 22 [1, 8, 12] w) := by
  have h := way_any 7 1 w (by decide) (by decide)
  rwa [show ints (wayOf 7 1) = [1, 8, 12] from by decide] at h
theorem kn_h (w : World) : Calls Try.prog 14 #[.int .u64 7] w (ListRet .i64 3 [2, 1, 0] w) := by
  have h := trees_yes 7 w (by decide)
  rwa [show trees 7 = [2, 1, 0] from by decide] at h
theorem kn_r (k : Nat) (hk : k < 15) (w : World) : Calls Try.prog 18 #[.int .u64 k, .int .i64 3] w (QRet (.tuple #[.int .i64 (rowOf k 3 : Nat), .bool true]) w) := to_q (row_yes k 3 w (by decide) (by omega))

set_option maxRecDepth 100000 in
set_option maxHeartbeats 4000000 in
theorem known_walk (w : World) : Calls Try.prog 9 #[] w (NRet (.bool true) w) := by
  have AW := Lib.hid awake_any; have IS := Lib.hid is_any; have NO := Lib.hid no_any; have WW := Lib.hid kn_w; have HH := Lib.hid kn_h; have RR := Lib.hid kn_r
  have Ka1 := Lib.hid kn_a1
  have Ka2 := Lib.hid kn_a2
  have Ka3 := Lib.hid kn_a3
  have Ka4 := Lib.hid kn_a4
  have Kb1 := Lib.hid kn_b1
  have Kb2 := Lib.hid kn_b2
  have Kb3 := Lib.hid kn_b3
  have Kb4 := Lib.hid kn_b4
  have Kb5 := Lib.hid kn_b5
  have Kb6 := Lib.hid kn_b6
  have Kc0 := Lib.hid kn_c0
  have Kc1 := Lib.hid kn_c1
  have Kc2 := Lib.hid kn_c2
  have Kc3 := Lib.hid kn_c3
  have Kd4 := Lib.hid kn_d4
  have Kd5 := Lib.hid kn_d5
  have Ke1 := Lib.hid kn_e1
  have Ke2 := Lib.hid kn_e2
  have Ke3 := Lib.hid kn_e3
  have Kt1 := Lib.hid kn_t1
  have Kt2 := Lib.hid kn_t2
  have Kt3 := Lib.hid kn_t3
  go_enter Try.func9, Try.ntmps9
  go_wp2_with fail
  go_wp2_with fail
  refine (Ka1.out _).mono ?_
  rintro e w' ⟨rfl, n9, rfl⟩
  go_wp2_with fail
  refine (Ka2.out _).mono ?_
  rintro e w' ⟨rfl, n9, rfl⟩
  go_wp2_with fail
  refine (Ka3.out _).mono ?_
  rintro e w' ⟨rfl, n9, rfl⟩
  go_wp2_with fail
  refine (Ka4.out _).mono ?_
  rintro e w' ⟨rfl, n9, rfl⟩
  go_wp2_with fail
  refine (AW.out _).mono ?_
  rintro e w' ⟨rfl, n9, rfl⟩
  go_wp2_with fail
  refine (Kb1.out _).mono ?_
  rintro e w' ⟨rfl, n9, rfl⟩
  go_wp2_with fail
  refine (Kb2.out _).mono ?_
  rintro e w' ⟨rfl, n9, rfl⟩
  go_wp2_with fail
  refine (Kb3.out _).mono ?_
  rintro e w' ⟨rfl, n9, rfl⟩
  go_wp2_with fail
  refine (Kb4.out _).mono ?_
  rintro e w' ⟨rfl, n9, rfl⟩
  go_wp2_with fail
  refine (Kb5.out _).mono ?_
  rintro e w' ⟨rfl, n9, rfl⟩
  go_wp2_with fail
  refine (Kb6.out _).mono ?_
  rintro e w' ⟨rfl, n9, rfl⟩
  go_wp2_with fail
  refine (IS.out _ _ _ _).mono ?_
  rintro e w' ⟨rfl, n9, rfl⟩
  go_wp2_with fail
  refine (IS.out _ _ _ _).mono ?_
  rintro e w' ⟨rfl, n9, rfl⟩
  go_wp2_with fail
  refine (IS.out _ _ _ _).mono ?_
  rintro e w' ⟨rfl, n9, rfl⟩
  go_wp2_with fail
  refine (IS.out _ _ _ _).mono ?_
  rintro e w' ⟨rfl, n9, rfl⟩
  go_wp2_with fail
  refine (NO.out _ _ _).mono ?_
  rintro e w' ⟨rfl, n9, rfl⟩
  go_wp2_with fail
  refine (NO.out _ _ _).mono ?_
  rintro e w' ⟨rfl, n9, rfl⟩
  go_wp2_with fail
  have want : ∀ k, k < 15 → (#[.int .i64 0, .int .i64 0, .int .i64 0, .int .i64 0, .int .i64 0, .int .i64 0, .int .i64 0, .int .i64 0, .int .i64 1, .int .i64 1, .int .i64 1, .int .i64 1, .int .i64 2, .int .i64 2, .int .i64 3] : Array Value)[k]? = some (.int .i64 (rowOf k 3 : Nat)) := by
    intro k hk
    iterate 15 (rcases k with _ | k; · kernel_rfl)
    omega
  refine wp_gen (fun w' => (∀ k, k < 15 → w'.cell? ⟨w.heap.size, k, none⟩ = some (.int .i64 (rowOf k 3 : Nat))) ∧ Below w.heap.size w w' ∧ w.heap.size < w'.heap.size) ⟨fun k hk => ?_, ?_, ?_⟩ ?_
  · exact ((IsBlk.newAt _ _ (by simp)).cell k).trans (want k hk)
  · exact (bel_drewN (Below.refl _ _) _).alloc (by simp) _
  · simp
  clear want
  rintro wk ⟨cells, hB, hlt⟩
  have CS := Lib.hid cells; have HB := Lib.hid hB
  clear cells hB
  go_loopw [150] (fun v wr => ∃ k q : Nat, k ≤ 15 ∧ v = .int .i64 k ∧ wr = wk.drewN q) (fun v _ => 15 - (intOf v).toNat)
  case atStart => exact ⟨0, 0, by omega, rfl, rfl⟩
  case round =>
    obtain ⟨k, q, hk, rfl, rfl⟩ := hrel
    by_cases hk15 : k < 15
    · have ck := CS.out k hk15
      have RK := Lib.hid (RR.out k hk15)
      have k0 : (0 : Int) ≤ k := by omega
      have k1 : (k : Int) < 15 := by omega
      generalize rowOf k 3 = rk at *
      go_wp2_with (go_at_call 18; refine (RK.out _).mono ?_; rintro e w' ⟨rfl, n9, rfl⟩)
      exact ⟨⟨k + 1, _, by omega, by go_num, rfl⟩, by simp [intOf]; omega⟩
    · obtain rfl : k = 15 := by omega
      clear hk15 hk
      go_wp2_with fail
      refine (Kc0.out _).mono ?_
      rintro e w' ⟨rfl, n9, rfl⟩
      go_wp2_with fail
      refine (Kc1.out _).mono ?_
      rintro e w' ⟨rfl, n9, rfl⟩
      go_wp2_with fail
      refine (Kc2.out _).mono ?_
      rintro e w' ⟨rfl, n9, rfl⟩
      go_wp2_with fail
      refine (Kc3.out _).mono ?_
      rintro e w' ⟨rfl, n9, rfl⟩
      go_wp2_with fail
      refine (HH.out _).mono ?_
      rintro e w1 ⟨A, c, rfl, hown, hb1⟩
      obtain ⟨g, rfl, _, l0, x0⟩ := own_at hown (k := 0) (by decide)
      obtain ⟨g', e1, _, _, x2⟩ := own_at hown (k := 2) (by decide)
      injection e1 with e1; injection e1 with e1; subst e1
      have H1 := Lib.hid (HB.out.trans (((bel_drewN (Below.refl wk.heap.size wk) _).trans hb1).mono HB.out.size))
      clear hown hb1
      go_wp2_with fail
      refine (WW.out _).mono ?_
      rintro e w2 ⟨A2, c2, rfl, hown, hb2⟩
      have z0 := (hb2.cell (p := ⟨g, 0, none⟩) l0).trans x0
      have z2 := (hb2.cell (p := ⟨g, 2, none⟩) l0).trans x2
      have H2 := Lib.hid (H1.out.trans (hb2.mono H1.out.size))
      clear x0 x2 hb2
      obtain ⟨g2, rfl, _, l2, y0⟩ := own_at hown (k := 0) (by decide)
      obtain ⟨g3, e1, _, _, y1⟩ := own_at hown (k := 1) (by decide)
      injection e1 with e1; injection e1 with e1; subst e1
      obtain ⟨g3, e1, _, _, y2⟩ := own_at hown (k := 2) (by decide)
      injection e1 with e1; injection e1 with e1; subst e1
      clear hown
      simp at z0 z2 y0 y1 y2
      have IT : ∀ (x : Int) w, Calls Try.prog 32 #[.int .u64 x, .bool true, .int .u64 x] w (QRet (.bool true) w) := fun x w => by simpa using IS.out x true x w
      have NT : ∀ w, Calls Try.prog 35 #[.int .u64 0, .bool false] w (QRet (.bool true) w) := fun w => NO.out 0 false w
      have HI := Lib.hid IT; have HN := Lib.hid NT
      clear IT NT
      go_wp2_with fail
      refine (HI.out _ _).mono ?_
      rintro e w' ⟨rfl, n9, rfl⟩
      go_wp2_with fail
      refine (HI.out _ _).mono ?_
      rintro e w' ⟨rfl, n9, rfl⟩
      go_wp2_with fail
      refine (HN.out _).mono ?_
      rintro e w' ⟨rfl, n9, rfl⟩
      go_wp2_with fail
      refine (Kt1.out _).mono ?_
      rintro e wt1 ⟨rfl, hbt1⟩
      go_wp2_with fail
      refine (Kt2.out _).mono ?_
      rintro e wt2 ⟨rfl, hbt2⟩
      go_wp2_with fail
      refine (Kt3.out _).mono ?_
      rintro e wt3 ⟨rfl, hbt3⟩
      have H3 := Lib.hid (H2.out.trans (((bel_drewN (Below.refl w2.heap.size w2) _).trans hbt1).mono H2.out.size))
      have H4 := Lib.hid (H3.out.trans (hbt2.mono H3.out.size))
      have H5 := Lib.hid (H4.out.trans (hbt3.mono H4.out.size))
      clear hbt1 hbt2 hbt3
      go_wp2_with fail
      refine (Kd4.out _).mono ?_
      rintro e w' ⟨rfl, n9, rfl⟩
      go_wp2_with fail
      refine (Kd5.out _).mono ?_
      rintro e w' ⟨rfl, n9, rfl⟩
      go_wp2_with fail
      refine (Ke1.out _).mono ?_
      rintro e w' ⟨rfl, n9, rfl⟩
      go_wp2_with fail
      refine (Ke2.out _).mono ?_
      rintro e w' ⟨rfl, n9, rfl⟩
      go_wp2_with fail
      refine (Ke3.out _).mono ?_
      rintro e w' ⟨rfl, n9, rfl⟩
      go_wp2_with fail
      refine (HI.out _ _).mono ?_
      rintro e w' ⟨rfl, n9, rfl⟩
      go_wp2_with fail
      refine (HN.out _).mono ?_
      rintro e w' ⟨rfl, n9, rfl⟩
      go_wp2_with fail
      go_ret
      exact ⟨rfl, bel_drewN H5.out _⟩
theorem law_PosKnown {H : Type} {enc : TypeId × Value → H} (W : World) (_base : Nat) :
    Calls Try.prog 9 #[] W fun e w' => e = .returned (.bool true) ∧ Below W.heap.size W w' := known_walk W
end Go.Proofs.Ytpicfccgfkemlaa
