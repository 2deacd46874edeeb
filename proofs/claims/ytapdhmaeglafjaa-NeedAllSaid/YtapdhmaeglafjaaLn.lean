/- NeedAll. -/
import Derived.Test.YtapdhmaeglafjaaPb
import Derived.Test.YtapdhmaeglafjaaMn
import Derived.Test.YtapdhmaeglafjaaNi
namespace Go.Proofs.Ytapdhmaeglafjaa
open Go.RowKit Go.Shelf

theorem ru_two (w : World) (p q : Nat) : Ru (w.alloc (.cells #[.int .u64 p, .int .u64 q] 22)) (some ⟨w.heap.size, 0, none⟩) [p, q] := fun _ => by
  refine ⟨_, rfl, by simp, fun j x hx => ?_⟩
  rcases j with _ | _ | j
  · cases hx
    exact (IsBlk.new w _ _).cell 0
  · cases hx
    exact (IsBlk.new w _ _).cell 1
  · cases hx
theorem flat_next {f : Nat → List Nat} {l : List Nat} {k x : Nat} (h : l[k]? = some x) : (l.take (k + 1)).flatMap f = (l.take k).flatMap f ++ f x := by
  rw [List.take_add_one, h, List.flatMap_append]
  simp
theorem flat_len (R : Nat) : ∀ l : List Nat, (l.flatMap fun c => [leftOf c R, leftOf c R + 1]).length = 2 * l.length
  | [] => rfl
  | a :: l => by rw [List.flatMap_cons, List.length_append, flat_len R l, List.length_cons]; simp; omega

set_option maxHeartbeats 2000000 in
set_option maxRecDepth 100000 in
theorem all_walk (n x : Nat) (w : World) (hnu : (n : Int) ≤ 18446744073709551615) (hxu : (x : Int) ≤ 18446744073709551615) :
    Calls Try.prog 7 #[.int .u64 n, .int .u64 x] w (NRet (.bool true) w) := by
  have sg : ∀ W, SliceG W none [] := fun W k hk => by simp at hk
  by_cases hn : n ≤ 9223372036854775807
  · have hv := valid_nil hn
    have ND := Lib.hid fun w => need_yes n [] none 0 w (by simp) (sg w) hv
    have CK := Lib.hid fun w => check_any n [] none 0 w hnu (by simp) (by simp) (sg w) 0 (.inl ⟨hv, rfl⟩)
    simp only [List.length_nil] at ND CK
    by_cases hin : InF n x
    · have MV := Lib.hid fun w => Moved_yes n [] none 0 x w (by simp) (sg w) hv hin (gone_nil n x)
      have TR := Lib.hid fun w => tree_yes n x w hin
      rw [moved_nil hin] at MV
      simp only [List.length_nil] at MV
      have hl := tree_le hin
      have hb := tree_bit hin
      have hR := rows_le (n := n) (by omega)
      have RT := Lib.hid fun w => root_yes n (treeOf n x) w (by omega) hb
      have RW := Lib.hid fun w => rows_yes n w (by omega)
      obtain ⟨r1, r2, r3⟩ := root_in hn hb
      have hrow : rowOf (rootOf n (treeOf n x)) (rowsOf n) = treeOf n x := by unfold treeOf at r3 ⊢; unfold treeOf at r2; omega
      have hrm : rootOf n (treeOf n x) ∈ wayOf n x := by rw [← tree_root hin]; exact (mem_way hin).2 ⟨_, Nat.le_refl _, rfl⟩
      have hru := inF_u64 r1
      clear r3 hb
      generalize rootOf n (treeOf n x) = r at *
      generalize treeOf n x = h at *
      go_enter Try.func7, Try.ntmps7
      go_wp2_with fail
      refine (ND.out _).mono ?_
      rintro e w1 ⟨l, hl0, hok⟩
      obtain rfl := need_none hl0 (needed_nil n)
      obtain ⟨A1, c1, rfl, _, hb1⟩ := hok.at
      have HB1 := Lib.hid hb1
      clear hl0 hok hb1
      simp only [List.length_nil]
      go_wp2_with fail
      refine (MV.out _).mono ?_
      rintro e w2 ⟨rfl, hb⟩
      have HB2 := Lib.hid (HB1.out.trans (hb.mono HB1.out.size))
      clear hb
      go_wp2_with fail
      refine (TR.out _).mono ?_
      rintro e w3 ⟨rfl, hb⟩
      have HB3 := Lib.hid (HB2.out.trans (hb.mono HB2.out.size))
      clear hb
      go_wp2_with fail
      refine (CK.out _).mono ?_
      rintro e w4 ⟨rfl, hb⟩
      have HB4 := Lib.hid (HB3.out.trans (hb.mono HB3.out.size))
      clear hb
      by_cases h5 : h ≤ 5
      · have h5i : ¬ (5 : Int) < h := by omega
        have h5j : (h : Int) ≤ 5 := by omega
        go_wp2_with (first
          | (go_at_call 14; refine (RT.out _).mono ?_; rintro e w' ⟨rfl, d1, rfl⟩)
          | (go_at_call 15; refine (RW.out _).mono ?_; rintro e w' ⟨rfl, rfl⟩))
        have HB5 : Below w.heap.size w ((w4.drewN d1).alloc (.cells #[.int .u64 r] 22)) := (bel_drewN HB4.out d1).alloc HB4.out.size _
        have HS5 : SliceAt ((w4.drewN d1).alloc (.cells #[.int .u64 r] 22)) (some ⟨(w4.drewN d1).heap.size, 0, none⟩) (allL n r 0) := SliceAt.lit [r] (IsBlk.new (w4.drewN d1) _ _)
        have hz5 : w.heap.size ≤ ((w4.drewN d1).alloc (.cells #[.int .u64 r] 22)).heap.size := HB5.size
        have hz6 : ∀ ad : Addr, (some ⟨(w4.drewN d1).heap.size, 0, none⟩ : Option Addr) = some ad → ad.block < ((w4.drewN d1).alloc (.cells #[.int .u64 r] 22)).heap.size := fun ad e => by cases e; simp
        generalize (w4.drewN d1).alloc (.cells #[.int .u64 r] 22) = w5 at *
        go_loopw [16, 17, 18, 19, 20, 21, 22, 23, 24, 25, 26, 27] (fun v16 v17 _ _ _ _ _ _ _ _ _ _ wr => ∃ (d : Nat) (Al : Option Addr) (cl : Nat), d ≤ h ∧ v17 = .int .i64 d ∧ v16 = .slice Al (allL n r d).length cl ∧ SliceAt wr Al (allL n r d) ∧ Below w.heap.size w wr) (fun _ v17 _ _ _ _ _ _ _ _ _ _ _ => h - (intOf v17).toNat)
        case atStart => exact ⟨0, _, _, by omega, rfl, rfl, HS5, HB5⟩
        case round =>
          obtain ⟨d, Al, cl, hd, rfl, rfl, hS, hbel⟩ := hrel
          clear hz6 HS5 HB5 hz5
          by_cases hlt : d < h
          · have d1 : (d : Int) < h := by omega
            have hpw : 2 ^ d ≤ 16 := pw_le (show d ≤ 4 by omega)
            have HLEN := Lib.hid (all_len n r d)
            have hlb : (allL n r d).length ≤ 16 := by rw [HLEN.out]; exact hpw
            clear hpw
            have HSA := Lib.hid hS
            have HBA := Lib.hid hbel
            have hS0 := hS
            clear hS hbel
            generalize wr = W0 at *
            go_wp2_with fail
            go_loopw [18, 19, 20, 21] (fun v18 v19 _ _ w2 => ∃ (k : Nat) (Bl : Option Addr) (cb : Nat) (L : List Nat), k ≤ (allL n r d).length ∧ v19 = .int .i64 k ∧ L = ((allL n r d).take k).flatMap (fun c => [leftOf c (rowsOf n), leftOf c (rowsOf n) + 1]) ∧ v18 = .slice Bl L.length cb ∧ OwnU w2 W0.heap.size (.slice Bl L.length cb) L ∧ Below W0.heap.size W0 w2) (fun _ v19 _ _ _ => (allL n r d).length - (intOf v19).toNat)
            case atStart => exact ⟨0, none, 0, [], by omega, rfl, by simp, rfl, OwnU.nil _ _, Below.refl _ _⟩
            case round =>
              obtain ⟨k, Bl, cb, L, hk, rfl, hL, rfl, hown, hb2⟩ := hrel
              by_cases hkl : k < (allL n r d).length
              · obtain ⟨ga, e, hga, hca⟩ := (HSA.out.after hb2) k hkl
                subst e
                have hy : (allL n r d)[k]? = some (allL n r d)[k] := List.getElem?_eq_getElem hkl
                rw [hy] at hca
                simp only [Option.map_some] at hca
                obtain ⟨q1, q2, q3⟩ := (mem_all r1 d (by omega) _).1 (List.mem_of_getElem? hy)
                have NX := Lib.hid (flat_next (f := fun c => [leftOf c (rowsOf n), leftOf c (rowsOf n) + 1]) hy)
                obtain ⟨k1, _, k3, _⟩ := child_in q1 (by omega)
                have LF := Lib.hid fun w => left_yes _ (rowsOf n) w hR q1.2.1 k1
                have hlu := inF_u64 k3
                have HLL := Lib.hid (show L.length = 2 * k by rw [hL, flat_len, List.length_take]; omega)
                rewrite [← hL] at NX
                clear hy q1 q2 q3 k1 k3 hL
                generalize (allL n r d)[k] = y at *
                generalize leftOf y (rowsOf n) = c at *
                have RU2 := Lib.hid fun w => ru_two w c (c + 1)
                rewrite [show ((c + 1 : Nat) : Int) = (c : Int) + 1 from by omega] at RU2 hlu
                have k0 : (0 : Int) ≤ k := by omega
                have k2 : (k : Int) < (allL n r d).length := by omega
                have HO := Lib.hid hown
                have HB2 := Lib.hid hb2
                clear hown hb2
                go_wp2_with (first
                  | (go_at_call 29; refine (LF.out _).mono ?_; rintro e w' ⟨rfl, rfl⟩)
                  | (at_builtin; refine wpList_append_nums rfl _ _ rfl W0.heap.size (.slice Bl L.length cb) L rfl (HO.out.after ((Below.refl wr.heap.size wr).alloc (Nat.le_refl _) _)) _ _ _ [c, c + 1] rfl rfl (RU2.out _) (by have := HLL.out; simp; omega) (by have := HB2.out.size; simp; omega) (L.length + 2) rfl (L ++ [c, c + 1]) rfl ?_; intro A2 c2 w4 h2 hg2))
                have ell : (L ++ [c, c + 1]).length = L.length + 2 := by simp
                exact ⟨⟨k + 1, A2, c2, L ++ [c, c + 1], by omega, by go_num, NX.out.symm, by rw [ell], by rw [ell]; exact h2, bel_append HB2.out HB2.out.size HO.out hg2⟩, by simp [intOf]; omega⟩
              · obtain rfl : k = (allL n r d).length := by omega
                rw [List.take_length] at hL
                have hL2 : L = allL n r (d + 1) := hL
                clear hL
                subst hL2
                have hd2 : d + 1 ≤ rowOf r (rowsOf n) := by omega
                have hv2 := all_valid r1 hd2
                have hpw2 : 2 ^ (d + 1) ≤ 32 := pw_le (show d + 1 ≤ 5 by omega)
                have hl2 : (allL n r (d + 1)).length ≤ 32 := by rw [all_len]; exact hpw2
                have ND2 := Lib.hid fun w hs => need_yes n (allL n r (d + 1)) Bl cb w (by omega) hs hv2
                have GX := Lib.hid fun w hs => Gone_yes n (allL n r (d + 1)) Bl cb x w (by omega) hs hv2 hin
                have GR := Lib.hid fun w hs => Gone_yes n (allL n r (d + 1)) Bl cb r w (by omega) hs hv2 r1
                rw [all_gone r1 hd2 hin hrm] at GX
                rw [all_gone r1 hd2 r1 (way_self r1)] at GR
                have NON := Lib.hid fun s => all_need r1 r2 hd2 s
                have HS6 := Lib.hid (OwnU.at hown rfl)
                have HB6 := Lib.hid (HBA.out.trans (hb2.mono HBA.out.size))
                clear hown hb2 hv2 hpw2
                generalize hls : allL n r (d + 1) = ls at *
                have HLS := Lib.hid hls
                clear hls
                go_wp2_with fail
                refine (ND2.out _ HS6.out.gen).mono ?_
                rintro e w7 ⟨l, hl0, hok⟩
                obtain rfl := need_none hl0 NON.out
                obtain ⟨A7, c7, rfl, _, hb7⟩ := hok.at
                have HB7 := Lib.hid (HB6.out.trans (hb7.mono HB6.out.size)); have HS7 := Lib.hid (HS6.out.after hb7)
                clear hl0 hok hb7
                simp only [List.length_nil]
                go_wp2_with fail
                refine (GX.out _ HS7.out.gen).mono ?_
                rintro e w8 ⟨rfl, hb⟩
                have HB8 := Lib.hid (HB7.out.trans (hb.mono HB7.out.size)); have HS8 := Lib.hid (HS7.out.after hb)
                clear hb
                go_wp2_with fail
                refine (GR.out _ HS8.out.gen).mono ?_
                rintro e w9 ⟨rfl, hb⟩
                have HB9 := Lib.hid (HB8.out.trans (hb.mono HB8.out.size)); have HS9 := Lib.hid (HS8.out.after hb)
                clear hb
                go_wp2_with fail
                exact ⟨⟨d + 1, Bl, cb, by omega, by go_num, by rw [HLS.out], by rw [HLS.out]; exact HS9.out, HB9.out⟩, by simp [intOf]; omega⟩
          · obtain rfl : d = h := by omega
            have HBA := Lib.hid hbel
            clear hS hbel
            go_wp2_with fail
            refine (works_any _).mono ?_
            rintro e w9 ⟨rfl, hb⟩
            have HB9 := Lib.hid (HBA.out.trans (hb.mono HBA.out.size))
            clear hb
            go_wp2_with fail
            go_ret
            exact ⟨rfl, HB9.out⟩
      · have h5i : (5 : Int) < h := by omega
        go_wp2_with fail
        refine (works_any _).mono ?_
        rintro e w9 ⟨rfl, hb⟩
        have HB9 := Lib.hid (HB4.out.trans (hb.mono HB4.out.size))
        clear hb
        go_wp2_with fail
        go_ret
        exact ⟨rfl, HB9.out⟩
    · have MV := Lib.hid fun w => Moved_no n [] none 0 x w hnu hxu (by simp) (by simp) (sg w) (fun h => hin h.2)
      have TR := Lib.hid fun w => tree_no n x w hnu hxu hin
      simp only [List.length_nil] at MV
      go_enter Try.func7, Try.ntmps7
      go_wp2_with fail
      refine (ND.out _).mono ?_
      rintro e w1 ⟨l, hl0, hok⟩
      obtain rfl := need_none hl0 (needed_nil n)
      obtain ⟨A1, c1, rfl, _, hb1⟩ := hok.at
      have HB1 := Lib.hid hb1
      clear hl0 hok hb1
      simp only [List.length_nil]
      go_wp2_with fail
      refine (MV.out _).mono ?_
      rintro e w2 ⟨rfl, hb⟩
      have HB2 := Lib.hid (HB1.out.trans (hb.mono HB1.out.size))
      clear hb
      go_wp2_with fail
      refine (TR.out _).mono ?_
      rintro e w3 ⟨rfl, hb⟩
      have HB3 := Lib.hid (HB2.out.trans (hb.mono HB2.out.size))
      clear hb
      go_wp2_with fail
      refine (CK.out _).mono ?_
      rintro e w4 ⟨rfl, hb⟩
      have HB4 := Lib.hid (HB3.out.trans (hb.mono HB3.out.size))
      clear hb
      go_wp2_with fail
      refine (works_any _).mono ?_
      rintro e w9 ⟨rfl, hb⟩
      have HB9 := Lib.hid (HB4.out.trans (hb.mono HB4.out.size))
      clear hb
      go_wp2_with fail
      go_ret
      exact ⟨rfl, HB9.out⟩
  · have hnv : ¬ Valid n [] := fun h => hn h.1
    have hnin : ¬ InF n x := fun h => hn h.1
    have ND := Lib.hid fun w => need_no n [] none 0 w hnu (by simp) (by simp) (sg w) hnv
    have CK := Lib.hid fun w => check_any n [] none 0 w hnu (by simp) (by simp) (sg w) 2 (.inr ⟨hnv, rfl⟩)
    have MV := Lib.hid fun w => Moved_no n [] none 0 x w hnu hxu (by simp) (by simp) (sg w) (fun h => hnin h.2)
    have TR := Lib.hid fun w => tree_no n x w hnu hxu hnin
    simp only [List.length_nil] at ND CK MV
    go_enter Try.func7, Try.ntmps7
    go_wp2_with fail
    refine (ND.out _).mono ?_
    rintro e w1 ⟨rfl, hb⟩
    have HB1 := Lib.hid hb
    clear hb
    go_wp2_with fail
    refine (MV.out _).mono ?_
    rintro e w2 ⟨rfl, hb⟩
    have HB2 := Lib.hid (HB1.out.trans (hb.mono HB1.out.size))
    clear hb
    go_wp2_with fail
    refine (TR.out _).mono ?_
    rintro e w3 ⟨rfl, hb⟩
    have HB3 := Lib.hid (HB2.out.trans (hb.mono HB2.out.size))
    clear hb
    go_wp2_with fail
    refine (CK.out _).mono ?_
    rintro e w4 ⟨rfl, hb⟩
    have HB4 := Lib.hid (HB3.out.trans (hb.mono HB3.out.size))
    clear hb
    go_wp2_with fail
    refine (works_any _).mono ?_
    rintro e w9 ⟨rfl, hb⟩
    have HB9 := Lib.hid (HB4.out.trans (hb.mono HB4.out.size))
    clear hb
    go_wp2_with fail
    go_ret
    exact ⟨rfl, HB9.out⟩

set_option maxRecDepth 100000 in
theorem law_NeedAll {H : Type} {enc : TypeId × Value → H} (W : World) (base : Nat) (v0 v1 : Value) (d0 d1 : DataW H) (p0 p1 : List MemPlace)
    (h0 : DataW.Trod enc Try.prog W 0 (fun _ => true) true 22 v0 d0 p0) (h1 : DataW.Trod enc Try.prog W 0 (fun _ => true) true 22 v1 d1 p1)
    (o0 : Value.okWide Try.prog W .any base 22 v0) (o1 : Value.okWide Try.prog W .any base 22 v1) :
    Calls Try.prog 7 #[v0, v1] W fun e w' => e = .returned (.bool true) ∧ Below W.heap.size W w' := by
  obtain ⟨a, rfl, wa⟩ := in_int Try.underlying22 h0 o0
  obtain ⟨n, rfl, hn⟩ := u64_nat wa
  obtain ⟨b, rfl, wb⟩ := in_int Try.underlying22 h1 o1
  obtain ⟨x, rfl, hx⟩ := u64_nat wb
  exact all_walk n x W hn hx
end Go.Proofs.Ytapdhmaeglafjaa
