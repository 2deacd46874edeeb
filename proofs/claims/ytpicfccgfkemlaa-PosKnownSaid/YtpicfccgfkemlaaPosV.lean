/- The law PosRoots. -/
import Derived.Test.YtpicfccgfkemlaaPosWc
import Derived.Test.YtpicfccgfkemlaaPosWp
import Derived.Test.YtpicfccgfkemlaaPosN
import Derived.Deep.DeepCutAuto
import Derived.Sort.AtCall
namespace Go.Proofs.Ytpicfccgfkemlaa
open Go.RowKit Go.Shelf

set_option maxRecDepth 100000 in
set_option maxHeartbeats 4000000 in
theorem roots_walk (n l : Nat) (w : World) (hn : n ≤ 9223372036854775807) (hl : (l : Int) ≤ 18446744073709551615) (a : Int) (ha : a = 2 * n ∨ a = 2 * n + 1) :
    Calls Try.prog 8 #[.int .u64 a, .int .u64 l] w (NRet (.bool true) w) := by
  have hR := rows_le (n := n) (by omega)
  have e1 : a / 2 = n := by omega
  have tr := fun w => trees_yes n w (by omega)
  have T := Lib.hid tr
  clear tr
  go_enter Try.func8, Try.ntmps8
  go_wp2_with fail
  go_wp2_with (first
    | (go_at_call 10; refine (rows_yes n _ (by omega)).mono ?_; rintro e w' ⟨rfl, d1, rfl⟩))
  refine (T.out _).mono ?_
  rintro e w1 ⟨A, c, rfl, hown, hbel⟩
  have HB := Lib.hid hbel
  obtain ⟨g, hA, key⟩ : ∃ g, (0 < (trees n).length → A = some ⟨g, 0, none⟩) ∧ ∀ i, i < (trees n).length → g < w1.heap.size ∧ ∃ h : Nat, (trees n)[i]? = some (h : Int) ∧ h ≤ 62 ∧ n / 2 ^ h % 2 = 1 ∧ w1.cell? ⟨g, i, none⟩ = some (.int .i64 h) := by
    by_cases h0 : 0 < (trees n).length
    · obtain ⟨g, hA, _, hlt, _⟩ := own_at hown h0
      refine ⟨g, fun _ => hA, fun i hi => ?_⟩
      obtain ⟨g', hA', _, hlt', hc⟩ := own_at hown hi
      rw [hA] at hA'
      injection hA' with hA'; injection hA' with hA'; subst hA'
      obtain ⟨h, h1, h2, h3⟩ := trees_at hi
      refine ⟨hlt, h, h1, h2, h3, ?_⟩
      rw [hc, List.getElem?_map, h1]
      rfl
    · exact ⟨0, fun h => absurd h h0, fun i hi => by omega⟩
  have hlen := trk_len n 63
  have KEY := Lib.hid key
  clear key hown hbel
  obtain ⟨len, hle⟩ : ∃ len, len = (trees n).length := ⟨_, rfl⟩
  rw [← hle] at KEY hA ⊢
  have HL := Lib.hid hle
  have hl63 : len ≤ 63 := by rw [hle]; exact hlen
  clear hle hlen
  go_wp2_with fail
  go_loopw [8, 9] (fun s i wr => ∃ k : Nat, k ≤ len ∧ i = .int .i64 k ∧ s = .int .u64 (psum n k : Nat) ∧ Below w1.heap.size w1 wr)
    (fun _ i _ => len - (intOf i).toNat)
  case atStart => exact ⟨0, by omega, rfl, rfl, Below.refl _ _⟩
  case round =>
    obtain ⟨k, hk, rfl, rfl, hb⟩ := hrel
    by_cases hlt : k < len
    · obtain ⟨hg, h, t1, t2, t3, t4⟩ := KEY.out k hlt
      have c1 := (hb.cell (p := ⟨g, k, none⟩) hg).trans t4
      have hA' := hA (by omega)
      subst hA'
      have rr := root_row hn t3
      have rt := fun w => root_yes n h w (by omega) t3
      have ro := fun w => row_yes (rootOf n h) (rowsOf n) w hR rr.1
      rw [rr.2.1] at ro
      have ri := root_in hn t3
      have te := fun w => tree_yes n (rootOf n h) w ri.1
      rw [ri.2.2] at te
      have RT := Lib.hid rt; have RO := Lib.hid ro; have TE := Lib.hid te
      have T1 := Lib.hid t1; have T3 := Lib.hid t3
      have HBl := Lib.hid hb
      clear rt ro te ri rr t1 t3 t4 hb T
      have k0 : (0 : Int) ≤ k := by omega
      have k1 : (k : Int) < len := by omega
      have HLT := Lib.hid hlt
      clear hlt hk
      obtain ⟨X, hX⟩ : ∃ X, X = rootOf n h := ⟨_, rfl⟩
      rw [← hX] at RT RO TE
      have HX := Lib.hid hX
      clear hX
      go_wp2_with (first
        | (go_at_call 12; refine (RT.out _).mono ?_; rintro e w' ⟨rfl, d1, rfl⟩)
        | (go_at_call 18; refine (RO.out _).mono ?_; rintro e w' ⟨rfl, d2, rfl⟩)
        | (go_at_call 33; refine (TE.out _).mono ?_; rintro e w3 ⟨rfl, hb3⟩))
      have hs3 := hb3.size
      have HB3 := Lib.hid (HBl.out.trans ((bel_drewN (Below.refl wr.heap.size wr) d1 |>.trans hb3).mono HBl.out.size))
      clear hb3 hs3 c1
      have c3 : w3.cell? ⟨g, k, none⟩ = some (.int .i64 h) := by
        obtain ⟨hg, h', t1, t2, t3, t4⟩ := KEY.out k HLT.out
        have e := t1.symm.trans T1.out
        injection e with e
        rw [e] at t4
        exact (HB3.out.cell (p := ⟨g, k, none⟩) hg).trans t4
      go_upto_region 13 with fail
      go_cut [105] (fun s wx => s = .bool false ∧ ∃ q, wx = w3.drewN q)
      case first =>
        rcases Nat.eq_zero_or_pos k with h0 | h0
        · subst h0
          simp only [Int.natCast_zero] at *
          go_quiet (fail)
          go_wp2_with fail
          go_meet
          exact ⟨rfl, _, rfl⟩
        · obtain ⟨j, rfl⟩ : ∃ j, k = j + 1 := ⟨k - 1, by omega⟩
          obtain ⟨hgj, hj, s1, s2, s3, s4⟩ := KEY.out j (by have := HLT.out; omega)
          have c4 : w3.cell? ⟨g, j, none⟩ = some (.int .i64 hj) := (HB3.out.cell (p := ⟨g, j, none⟩) hgj).trans s4
          have hf : (h : Int) < hj := by
            have := trees_fall (Nat.lt_succ_self j) s1 T1.out
            omega
          clear s1 s3 s4
          go_quiet (fail)
          go_wp2_with fail
          go_meet
          exact ⟨by simp; omega, _, rfl⟩
      case rest =>
        clear c3
        obtain ⟨rfl, q3, hwc⟩ := hcut
        have HB4 := Lib.hid (show Below w1.heap.size w1 wc by rw [hwc]; exact bel_drewN HB3.out q3)
        clear hwc HB3
        go_wp2_with fail
        go_loopw [16] (fun v wy => ∃ j : Nat, j ≤ k ∧ v = .int .i64 j ∧ Below w1.heap.size w1 wy) (fun v _ => k - (intOf v).toNat)
        case atStart => exact ⟨0, by omega, rfl, HB4.out⟩
        case round =>
          obtain ⟨j, hj, rfl, hbj⟩ := hrel
          by_cases hjk : j < k
          · obtain ⟨hgj, hh, s1, s2, s3, s4⟩ := KEY.out j (by have := HLT.out; omega)
            have c4 := (hbj.cell (p := ⟨g, j, none⟩) hgj).trans s4
            have hap := roots_apart hn s3 T3.out (trees_fall hjk s1 T1.out)
            have rj := root_row hn s3
            have rx := root_row hn T3.out
            have p1 := p_u64 hR rj.1
            have p2 := p_u64 hR rx.1
            have wx := fun w => within_any (rootOf n h) (rootOf n hh) (rowsOf n : Nat) w (by omega) (by omega)
            have wy := fun w => within_any (rootOf n hh) (rootOf n h) (rowsOf n : Nat) w (by omega) (by omega)
            rw [withinB_nat hR rx.1 rj.1, decide_eq_false hap.2.1] at wx
            rw [withinB_nat hR rj.1 rx.1, decide_eq_false hap.2.2] at wy
            have rt := fun w => root_yes n hh w (by omega) s3
            rw [← HX.out] at wx wy hap
            have hne : ((rootOf n hh : Nat) : Int) ≠ (X : Int) := fun e => hap.1 (by omega)
            obtain ⟨Y, hY⟩ : ∃ Y, Y = rootOf n hh := ⟨_, rfl⟩
            rw [← hY] at wx wy rt hne
            have wb : ∀ (a b : Int) w, (a = X ∧ b = Y) ∨ (a = Y ∧ b = X) → Calls Try.prog 30 #[.int .u64 a, .int .u64 b, .int .i64 (rowsOf n : Nat)] w (QRet (.bool false) w) := by
              rintro a b w (⟨rfl, rfl⟩ | ⟨rfl, rfl⟩)
              · exact wx w
              · exact wy w
            have RTj := Lib.hid rt; have WB := Lib.hid wb
            have HBJ := Lib.hid hbj
            have j0 : (0 : Int) ≤ j := by omega
            have j1 : (j : Int) < k := by omega
            have j2 : (j : Int) < len := by omega
            clear rt wx wy wb hap rj rx p1 p2 s1 s3 s4 hY hbj
            go_wp2_with (first
              | (go_at_call 12; refine (RTj.out _).mono ?_; rintro e w' ⟨rfl, d1, rfl⟩)
              | (go_at_call 30; refine (WB.out _ _ _ (by first | exact .inl ⟨rfl, rfl⟩ | exact .inr ⟨rfl, rfl⟩)).mono ?_; rintro e w' ⟨rfl, d1, rfl⟩))
            exact ⟨⟨j + 1, by omega, by go_num, bel_drewN HBJ.out _⟩, by simp [intOf]; omega⟩
          · obtain rfl : j = k := by omega
            obtain ⟨hgj, hh, s1, s2, s3, s4⟩ := KEY.out j HLT.out
            have c4 := (hbj.cell (p := ⟨g, j, none⟩) hgj).trans s4
            have eh := s1.symm.trans T1.out
            injection eh with eh
            obtain rfl : hh = h := by omega
            have HBJ := Lib.hid hbj
            have hp := psum_next s1
            have hle := psum_le hn (j + 1)
            have hpw := pw_pos hh
            have HP := Lib.hid hp
            clear hp hle hpw s1 s3 s4 eh hbj
            go_wp2_with fail
            refine ⟨⟨j + 1, by have := HLT.out; omega, by go_num, ?_, HBJ.out⟩, by have := HLT.out; simp [intOf]; omega⟩
            have h63 := pw_63 (R := hh) (by omega)
            have hle := psum_le hn (j + 1)
            rw [HP.out] at hle ⊢
            rw [nat_pow_cast]
            generalize 2 ^ hh = P at *
            rw [wrap_nat _ (by omega), IntWalk.u64_in _ (by omega)]
            congr 1
    · obtain rfl : k = len := by omega
      have hp := psum_all hn
      rw [← HL.out] at hp
      rw [hp]
      have HBl := Lib.hid hb
      clear hp hb hA T
      rcases Nat.eq_zero_or_pos n with h0 | h0
      · subst h0
        have tn := fun w => tree_no 0 l w (by omega) hl no_leaf
        simp only [Int.natCast_zero] at tn
        have TN := Lib.hid tn
        clear tn
        simp only [Int.natCast_zero] at *
        go_wp2_with (first
          | (go_at_call 33; refine (TN.out _).mono ?_; rintro e w3 ⟨rfl, hb3⟩)
          | (go_at_call 16; refine (awake_any _).mono ?_; rintro e w' ⟨rfl, n9, rfl⟩))
        go_ret
        exact ⟨rfl, HB.out.trans ((bel_drewN (HBl.out.trans ((hb3).mono HBl.out.size)) n9).mono HB.out.size)⟩
      · have hn0 : (0 : Int) < n := by omega
        go_wp2_with fail
        obtain ⟨m, hm⟩ : ∃ m, m = l % n := ⟨_, rfl⟩
        have hmn : m < n := by rw [hm]; exact Nat.mod_lt _ h0
        rw [show ((l : Int) % (n : Int)) = ((m : Nat) : Int) from by rw [hm]; rfl]
        clear hm
        obtain ⟨hin, q1, q2⟩ := leaf_in hn hmn
        have hb0 := tree_bit hin
        have hk := tree_le hin
        have te := fun w => tree_yes n m w hin
        have rt := fun w => root_yes n (treeOf n m) w (by omega) hb0
        have wa := fun w => way_any n m w (by omega) (by omega)
        have hx := way_last hin
        rw [tree_root hin] at hx
        have hl' := way_len hin
        have ht : topK n m = treeOf n m := by unfold treeOf; omega
        rw [ht] at hx hl'
        have hz : (wayOf n m)[0]? = some m := by
          rw [way_in hin, List.getElem?_map, List.getElem?_range (by omega)]
          rfl
        have rr := root_row hn hb0
        have p2 := p_u64 hR rr.1
        have wi : treeOf n m ≠ 0 → ∀ w, Calls Try.prog 30 #[.int .u64 m, .int .u64 (rootOf n (treeOf n m) : Nat), .int .i64 (rowsOf n : Nat)] w (QRet (.bool true) w) := fun h w => by
          have := within_any m (rootOf n (treeOf n m)) (rowsOf n : Nat) w (by omega) (by omega)
          rwa [withinB_nat hR hin.2.1 rr.1, decide_eq_true (leaf_root hn hmn h)] at this
        have TE := Lib.hid te; have RT := Lib.hid rt; have WA := Lib.hid wa; have WI := Lib.hid wi; have HX := Lib.hid hx; have HZ := Lib.hid hz; have HL' := Lib.hid hl'
        clear te rt wa wi hx hz hl' ht rr p2 hin q1 q2 hb0 KEY HL
        generalize treeOf n m = h at *
        generalize rootOf n h = X at *
        generalize wayOf n m = l' at *
        refine (TE.out _).mono ?_
        rintro e w3 ⟨rfl, hb3⟩
        have HB3 := Lib.hid (HBl.out.trans (hb3.mono HBl.out.size))
        clear hb3
        go_wp2_with (first
          | (go_at_call 12; refine (RT.out _).mono ?_; rintro e w' ⟨rfl, d1, rfl⟩))
        refine (WA.out _).mono ?_
        rintro e w4 ⟨A4, c4, rfl, hown, hb4⟩
        have hb5 : Below w3.heap.size w3 w4 := (bel_drewN (Below.refl w3.heap.size w3) d1).trans hb4
        have HB4 : Hid (Below w1.heap.size w1 w4) := HB3.out.trans (hb5.mono HB3.out.size)
        clear hb5
        obtain ⟨g4, rfl, _, lt4, y0⟩ := own_at hown (k := 0) (by rw [ints_len, HL'.out]; omega)
        obtain ⟨g5, e5, _, _, y1⟩ := own_at hown (k := h) (by rw [ints_len, HL'.out]; omega)
        injection e5 with e5; injection e5 with e5; subst e5
        rw [List.getElem?_map, ints, List.getElem?_map, HZ.out] at y0
        rw [List.getElem?_map, ints, List.getElem?_map, HX.out] at y1
        simp only [Option.map_some] at y0 y1
        have ez : (ints l').length = h + 1 := by rw [ints_len, HL'.out]
        rw [ez]
        clear hown hb4 ez
        have h0' : (0 : Int) ≤ h := by omega
        have h63 : (h : Int) ≤ 63 := by omega
        by_cases hz : h = 0
        · subst hz
          obtain rfl : m = X := by
            have := HZ.out.symm.trans HX.out
            simpa using this
          simp only [Int.natCast_zero] at *
          go_wp2_with (first
            | (go_at_call 16; refine (awake_any _).mono ?_; rintro e w' ⟨rfl, n9, rfl⟩))
          go_ret
          exact ⟨rfl, HB.out.trans ((bel_drewN HB4.out _).mono HB.out.size)⟩
        · have WIh := Lib.hid (WI.out hz)
          have hzi : ¬ (h : Int) = 0 := by omega
          go_wp2_with (first
            | (go_at_call 30; refine (WIh.out _).mono ?_; rintro e w' ⟨rfl, n8, rfl⟩)
            | (go_at_call 16; refine (awake_any _).mono ?_; rintro e w' ⟨rfl, n9, rfl⟩))
          go_ret
          exact ⟨rfl, HB.out.trans ((bel_drewN HB4.out _).mono HB.out.size)⟩
theorem law_PosRoots {H : Type} {enc : TypeId × Value → H} (W : World) (base : Nat) (v0 v1 : Value) (d0 d1 : DataW H) (p0 p1 : List MemPlace)
    (h0 : DataW.Trod enc Try.prog W 0 (fun _ => true) true 22 v0 d0 p0) (h1 : DataW.Trod enc Try.prog W 0 (fun _ => true) true 22 v1 d1 p1)
    (o0 : Value.okWide Try.prog W .any base 22 v0) (o1 : Value.okWide Try.prog W .any base 22 v1) :
    Calls Try.prog 8 #[v0, v1] W fun e w' => e = .returned (.bool true) ∧ Below W.heap.size W w' := by
  obtain ⟨a, rfl, wa⟩ := in_int Try.underlying22 h0 o0
  obtain ⟨b, rfl, wb⟩ := in_int Try.underlying22 h1 o1
  have ha := wf_u64 wa
  obtain ⟨l, rfl, hl⟩ := u64_nat wb
  exact roots_walk (a / 2).toNat l W (by omega) hl a (by omega)
end Go.Proofs.Ytpicfccgfkemlaa
