/- NeedEnough. -/
import Derived.Test.YtapdhmaeglafjaaCu
import Derived.Test.YtapdhmaeglafjaaPa
import Derived.Test.YtapdhmaeglafjaaLl
namespace Go.Proofs.Ytapdhmaeglafjaa
open Go.RowKit Go.Shelf

theorem same_n {f : FuncId} {args : Array Value} {v : Value} {w : World} (h : Calls Try.prog f args w fun e w' => e = .returned v ∧ w = w') : Calls Try.prog f args w (NRet v w) := h.mono fun e w' h => by
  obtain ⟨rfl, rfl⟩ := h
  exact ⟨rfl, Below.refl _ _⟩
theorem need_at {n : Nat} {ts l : List Nat} (h : IsNeed n ts l) {i j s t : Nat} (hij : i < j) (hi : l[i]? = some s) (hj : l[j]? = some t) : s < t := by
  obtain ⟨a1, a2⟩ := List.getElem?_eq_some_iff.1 hi
  obtain ⟨b1, b2⟩ := List.getElem?_eq_some_iff.1 hj
  have := List.pairwise_iff_getElem.1 h.1 i j a1 b1 hij
  rwa [a2, b2] at this

set_option maxHeartbeats 1000000 in
theorem lhas_list (l : List Nat) (A : Option Addr) (c p : Nat) (w : World) (hlen : l.length ≤ 1000000) (hs : SliceG w A l) : Calls Try.prog 32 #[.slice A l.length c, .int .u64 p] w fun e w' => e = .returned (.bool (decide (p ∈ l))) ∧ w = w' := by
  go_enter Try.func32, Try.ntmps32
  go_wp2_with fail
  go_loopw [5] (fun v wr => ∃ k : Nat, k ≤ l.length ∧ v = .int .i64 k ∧ p ∉ l.take k ∧ wr = w) (fun v _ => l.length - (intOf v).toNat)
  case atStart => exact ⟨0, by omega, rfl, by simp, rfl⟩
  case round =>
    obtain ⟨k, hk, rfl, hno, rfl⟩ := hrel
    by_cases hlt : k < l.length
    · obtain ⟨g, rfl, hg, hc⟩ := hs k hlt
      have hx : l[k]? = some l[k] := List.getElem?_eq_getElem hlt
      rw [hx] at hc
      simp only [Option.map_some] at hc
      have k1 : (k : Int) < l.length := by omega
      have HX := Lib.hid hx
      have HS := Lib.hid hs
      clear hs hx
      generalize l[k] = z at *
      by_cases he : z = p
      · subst he
        have HM := Lib.hid (decide_eq_true (List.mem_of_getElem? HX.out))
        go_wp2_with fail
        go_ret
        exact ⟨by rw [HM.out]; rfl, rfl⟩
      · have hne : ((z : Int) == p) = false := by rw [beq_eq_false_iff_ne]; omega
        have NO := Lib.hid (show p ∉ l.take (k + 1) from by
          rw [List.take_add_one, HX.out]
          intro h
          rcases List.mem_append.1 h with h | h
          · exact hno h
          · simp at h
            exact he h.symm)
        clear hno he
        go_wp2_with fail
        exact ⟨⟨k + 1, by omega, by go_num, NO.out, trivial⟩, by simp [intOf]; omega⟩
    · obtain rfl : k = l.length := by omega
      rw [List.take_length] at hno
      have HM := Lib.hid (decide_eq_false hno)
      clear hno
      go_wp2_with fail
      go_ret
      exact ⟨by rw [HM.out]; rfl, rfl⟩

set_option maxHeartbeats 2000000 in
set_option maxRecDepth 100000 in
theorem enough_walk (n : Nat) (A : Option Addr) (c : Nat) (l0 : List Nat) (w : World) (hnu : (n : Int) ≤ 18446744073709551615) (hl : l0.length ≤ c) (hc : c ≤ maxLen) (hs : SliceG w A l0) (hu : ∀ x ∈ l0, (x : Int) ≤ 18446744073709551615) :
    Calls Try.prog 9 #[.int .u64 n, .slice A l0.length c] w (NRet (.bool true) w) := by
  go_enter Try.func9, Try.ntmps9
  go_wp2_with (go_at_call 17; refine (cut_any A c l0 _ hl hc hs).mono ?_; rintro e w' ⟨A1, c1, rfl, hs1, rfl⟩; have hl20 : (l0.take 20).length ≤ 20 := (by rw [List.length_take]; omega); have hut : ∀ x ∈ l0.take 20, (x : Int) ≤ 18446744073709551615 := (fun x hx => hu x (List.mem_of_mem_take hx)); have HS1 := Lib.hid hs1; have HU := Lib.hid hut; clear hs1 hs hu hut hl hc; generalize l0.take 20 = l at *)
  by_cases hv : Valid n l
  · refine (ways_yes n l A1 c1 w (by omega) HS1.out hv).mono ?_
    rintro e w2 ⟨lw, hw, hok⟩
    obtain ⟨A2, c2, rfl, hs2, hb2⟩ := hok.at
    have HW := Lib.hid hw; have HS2 := Lib.hid hs2; have HB2 := Lib.hid hb2; have HL2 := Lib.hid (SliceG.after HS1.out hb2)
    clear hok hs2 hb2 hw
    go_wp2_with fail
    refine (need_yes n l A1 c1 w2 (by omega) HL2.out hv).mono ?_
    rintro e w3 ⟨ln, hn, hok⟩
    obtain ⟨A3, c3, rfl, hs3, hb3⟩ := hok.at
    have HN := Lib.hid hn; have HS3 := Lib.hid hs3; have HB3 := Lib.hid (HB2.out.trans (hb3.mono HB2.out.size)); have HL3 := Lib.hid (SliceG.after HL2.out hb3); have HW3 := Lib.hid (HS2.out.after hb3)
    clear hok hs3 hb3 hn
    have hlw : lw.length ≤ 64 * l.length := by
      have h1 := nodup_len lw (l.flatMap (wayOf n)) (HW.out.1.imp fun h => by omega) (fun x hx => (onway_mem n l x).1 ((HW.out.2 x).1 hx))
      have h2 := flat_short n l
      omega
    have hln := need_short HN.out
    have CK := Lib.hid fun w h => check_any n l A1 c1 w hnu (by omega) HU.out h 0 (.inl ⟨hv, rfl⟩)
    have hnn := hv.1
    have hR := rows_le (n := n) (by omega)
    have RW := Lib.hid fun w => rows_yes n w (by omega)
    go_wp2_with fail
    refine (CK.out _ HL3.out).mono ?_
    rintro e w4 ⟨rfl, hb4⟩
    have HB4 := Lib.hid (HB3.out.trans (hb4.mono HB3.out.size)); have HL4 := Lib.hid (SliceG.after HL3.out hb4); have HW4 := Lib.hid (HW3.out.after hb4); have HN4 := Lib.hid (HS3.out.after hb4)
    clear hb4
    go_wp2_with (go_at_call 15; refine (RW.out _).mono ?_; rintro e w' ⟨rfl, rfl⟩)
    clear HL3 HW3 HS3 HB3 HL2 HB2 HS2 HS1 CK RW
    go_loopw [12, 13, 14] (fun v12 _ _ wr => ∃ i : Nat, i ≤ lw.length ∧ v12 = .int .i64 i ∧ wr = w4) (fun v12 _ _ _ => lw.length - (intOf v12).toNat)
    case atStart => exact ⟨0, by omega, rfl, rfl⟩
    case round =>
      obtain ⟨i, hi, rfl, rfl⟩ := hrel
      by_cases hlt : i < lw.length
      · obtain ⟨g, rfl, hg, hc⟩ := HW4.out i hlt
        have hx : lw[i]? = some lw[i] := List.getElem?_eq_getElem hlt
        rw [hx] at hc
        simp only [Option.map_some] at hc
        have hon := (HW.out.2 _).1 (List.mem_of_getElem? hx)
        clear hx
        generalize lw[i] = x at *
        have i1 : (i : Int) < lw.length := by omega
        have HH := Lib.hid (lhas_list l A1 c1 x wr (by omega) HL4.out)
        by_cases hm : x ∈ l
        · rw [decide_eq_true hm] at HH
          clear hm hon
          go_wp2_with (go_at_call 32; refine HH.out.mono ?_; rintro e w' ⟨rfl, rfl⟩)
          exact ⟨⟨i + 1, by omega, by go_num, trivial⟩, by simp [intOf]; omega⟩
        · rw [decide_eq_false hm] at HH
          have hin := onway_in hv hon
          obtain ⟨h0, he1, he2⟩ := enough_child hv hon hm
          obtain ⟨k1, k2, k3, _⟩ := child_in hin h0
          have LF := Lib.hid fun w => left_yes x (rowsOf n) w hR hin.2.1 k1
          have hlu := inF_u64 k3
          rw [← HW.out.2, ← HN.out.2] at he1 he2
          clear hm hon hin h0 k1 k2 k3
          generalize leftOf x (rowsOf n) = L at *
          have C1 := Lib.hid (lhas_list lw (some ⟨g, 0, none⟩) c2 L wr (by omega) HW4.out.gen)
          have C2 := Lib.hid (lhas_list ln A3 c3 L wr (by omega) HN4.out.gen)
          have C3 := Lib.hid (lhas_list lw (some ⟨g, 0, none⟩) c2 (L + 1) wr (by omega) HW4.out.gen)
          have C4 := Lib.hid (lhas_list ln A3 c3 (L + 1) wr (by omega) HN4.out.gen)
          rewrite [show ((L + 1 : Nat) : Int) = (L : Int) + 1 from by omega] at C3 C4 hlu
          go_wp2_with fail
          refine HH.out.mono ?_
          rintro e _ ⟨rfl, rfl⟩
          go_wp2_with (go_at_call 29; refine (LF.out _).mono ?_; rintro e w' ⟨rfl, rfl⟩)
          by_cases q1 : L ∈ lw
          · rw [decide_eq_true q1] at C1
            refine C1.out.mono ?_
            rintro e _ ⟨rfl, rfl⟩
            go_wp2_with fail
            by_cases q3 : L + 1 ∈ lw
            · rw [decide_eq_true q3] at C3
              refine C3.out.mono ?_
              rintro e _ ⟨rfl, rfl⟩
              go_wp2_with fail
              exact ⟨⟨i + 1, by omega, by go_num, trivial⟩, by simp [intOf]; omega⟩
            · rw [decide_eq_false q3] at C3
              have q4 := he2.resolve_left q3
              rw [decide_eq_true q4] at C4
              refine C3.out.mono ?_
              rintro e _ ⟨rfl, rfl⟩
              go_wp2_with fail
              refine C4.out.mono ?_
              rintro e _ ⟨rfl, rfl⟩
              go_wp2_with fail
              exact ⟨⟨i + 1, by omega, by go_num, trivial⟩, by simp [intOf]; omega⟩
          · rw [decide_eq_false q1] at C1
            have q2 := he1.resolve_left q1
            rw [decide_eq_true q2] at C2
            refine C1.out.mono ?_
            rintro e _ ⟨rfl, rfl⟩
            go_wp2_with fail
            refine C2.out.mono ?_
            rintro e _ ⟨rfl, rfl⟩
            go_wp2_with fail
            by_cases q3 : L + 1 ∈ lw
            · rw [decide_eq_true q3] at C3
              refine C3.out.mono ?_
              rintro e _ ⟨rfl, rfl⟩
              go_wp2_with fail
              exact ⟨⟨i + 1, by omega, by go_num, trivial⟩, by simp [intOf]; omega⟩
            · rw [decide_eq_false q3] at C3
              have q4 := he2.resolve_left q3
              rw [decide_eq_true q4] at C4
              refine C3.out.mono ?_
              rintro e _ ⟨rfl, rfl⟩
              go_wp2_with fail
              refine C4.out.mono ?_
              rintro e _ ⟨rfl, rfl⟩
              go_wp2_with fail
              exact ⟨⟨i + 1, by omega, by go_num, trivial⟩, by simp [intOf]; omega⟩
      · obtain rfl : i = lw.length := by omega
        go_wp2_with fail
        have hw0 := HW4.out; have hn0 := HN4.out; have hl0 := HL4.out; have hb0 := HB4.out
        go_loopw [15, 16, 17, 18] (fun v15 _ _ _ w2 => ∃ i : Nat, i ≤ ln.length ∧ v15 = .int .i64 i ∧ Below w.heap.size w w2 ∧ SliceG w2 A1 l ∧ SliceAt w2 A2 lw ∧ SliceAt w2 A3 ln) (fun v15 _ _ _ _ => ln.length - (intOf v15).toNat)
        case atStart => exact ⟨0, by omega, rfl, hb0, hl0, hw0, hn0⟩
        case round =>
          obtain ⟨i, hi, rfl, hbr, hlr, hwr, hnr⟩ := hrel
          clear hw0 hn0 hl0 hb0
          by_cases hlt : i < ln.length
          · obtain ⟨g3, rfl, hg, hc⟩ := hnr i hlt
            have hx : ln[i]? = some ln[i] := List.getElem?_eq_getElem hlt
            rw [hx] at hc
            simp only [Option.map_some] at hc
            have HX := Lib.hid hx
            obtain ⟨f1, f2, f3, f4, f5, f6⟩ := need_facts hv ((HN.out.2 _).1 (List.mem_of_getElem? hx))
            have hsu := inF_u64 f1
            clear hx
            generalize ln[i] = s at *
            have i1 : (i : Int) < ln.length := by omega
            have FIN := Lib.hid f1
            have HNF := Lib.hid f6
            have SB := Lib.hid fun w => sib_yes s (rowsOf n) w hR (par_in f1 f2).1
            have k1 : s ∉ lw := fun h => f4 ((HW.out.2 s).1 h)
            have k2 : sibOf s ∈ lw := (HW.out.2 _).2 f3
            have hsib := inF_u64 (top_sib f1 f2).1
            have K1 := Lib.hid fun w (h : SliceAt w A2 lw) => same_n (lhas_list lw A2 c2 s w (by omega) h.gen)
            have K2 := Lib.hid fun w (h : SliceAt w A2 lw) => same_n (lhas_list lw A2 c2 (sibOf s) w (by omega) h.gen)
            rw [decide_eq_false k1] at K1
            rw [decide_eq_true k2] at K2
            have CELL := Lib.hid (show ∀ W, SliceAt W (some ⟨g3, 0, none⟩) ln → W.cell? ⟨g3, i, none⟩ = some (.int .u64 s) from fun W h => by
              obtain ⟨_, e, h1, h2⟩ := h i hlt
              cases e
              rw [HX.out] at h2
              exact h2)
            have GLT := Lib.hid (show ∀ W, SliceAt W (some ⟨g3, 0, none⟩) ln → g3 < W.heap.size from fun W h => by
              obtain ⟨_, e, h1, h2⟩ := h i hlt
              cases e
              exact h1)
            clear k1 k2 f1 f2 f3 f4 f5 f6
            generalize sibOf s = sb at *
            have HWR := Lib.hid hwr; have HNR := Lib.hid hnr; have HLR := Lib.hid hlr; have HBR := Lib.hid hbr
            clear hwr hnr hlr hbr
            have HST := Lib.hid (show ∀ (w1' w2' : World), (SliceAt w1' A2 lw ∧ SliceAt w1' (some ⟨g3, 0, none⟩) ln ∧ SliceG w1' A1 l ∧ Below w.heap.size w w1') → Below w1'.heap.size w1' w2' → (SliceAt w2' A2 lw ∧ SliceAt w2' (some ⟨g3, 0, none⟩) ln ∧ SliceG w2' A1 l ∧ Below w.heap.size w w2') from fun _ _ h hb => ⟨h.1.after hb, h.2.1.after hb, SliceG.after h.2.2.1 hb, h.2.2.2.trans (hb.mono h.2.2.2.size)⟩)
            go_wp2_with (go_at_call 33; refine (SB.out _).mono ?_; rintro e w' ⟨rfl, rfl⟩)
            clear hc hg
            rcases Nat.eq_zero_or_pos i with h0 | h0
            · subst h0
              simp only [Int.natCast_zero] at *
              refine wp_region_seq (S := fun w' => SliceAt w' A2 lw ∧ SliceAt w' (some ⟨g3, 0, none⟩) ln ∧ SliceG w' A1 l ∧ Below w.heap.size w w') (by kernel_rfl) (by kernel_rfl) ⟨HWR.out, HNR.out, HLR.out, HBR.out.drew⟩ ?_
              repeat (first
                | (refine SeqS.skip ?_ ?_; rfl; (try simp only [Act.put, List.setIfInBounds_toArray, List.set_cons_zero, List.set_cons_succ]))
                | (refine SeqS.take (v := ?_) ?_ ?_ ?_; rotate_left; rfl; (intro w hS; have hc1 := CELL.out _ hS.2.1; have hg1 := GLT.out _ hS.2.1; go_simp; with_reducible rfl); (try simp only [Act.put, List.setIfInBounds_toArray, List.set_cons_zero, List.set_cons_succ]))
                | (refine SeqS.call (v := ?_) (f := ?_) (args := ?_) ?_ ?_ ?_ ?_; rotate_left 3; rfl; (intro w hS; have hc1 := CELL.out _ hS.2.1; have hg1 := GLT.out _ hS.2.1; go_simp; (first | with_reducible rfl | (refine ⟨?_, ?_⟩ <;> with_reducible rfl))); (intro w hS; first | ((with_reducible refine (K1.out _ (hS.1)).mono ?_); rintro e w' ⟨rfl, hb⟩; refine ⟨?_, HST.out _ _ hS hb⟩; with_reducible rfl) | ((with_reducible refine (K2.out _ (hS.1)).mono ?_); rintro e w' ⟨rfl, hb⟩; refine ⟨?_, HST.out _ _ hS hb⟩; with_reducible rfl)); (try simp only [Act.put, List.setIfInBounds_toArray, List.set_cons_zero, List.set_cons_succ])))
              refine SeqS.done ?_
              rintro wz ⟨hz1, hz2, hz3, hz4⟩
              have HZ1 := Lib.hid hz1; have HZ2 := Lib.hid hz2; have HZ3 := Lib.hid hz3; have HZ4 := Lib.hid hz4
              clear hz1 hz2 hz3 hz4
              go_wp2_with fail
              have hz1 := HZ1.out; have hz2 := HZ2.out; have hz3 := HZ3.out; have hz4 := HZ4.out
              go_loopw [18] (fun v18 w3 => ∃ k : Nat, k ≤ l.length ∧ v18 = .int .i64 k ∧ Below w.heap.size w w3 ∧ SliceG w3 A1 l ∧ SliceAt w3 A2 lw ∧ SliceAt w3 (some ⟨g3, 0, none⟩) ln) (fun v18 _ => l.length - (intOf v18).toNat)
              case atStart => exact ⟨0, by omega, rfl, hz4, hz3, hz1, hz2⟩
              case round =>
                obtain ⟨k, hk, rfl, hb5, hl5, hw5, hn5⟩ := hrel
                clear hz1 hz2 hz3 hz4
                by_cases hkl : k < l.length
                · obtain ⟨ga, rfl, hga, hca⟩ := hl5 k hkl
                  have hy : l[k]? = some l[k] := List.getElem?_eq_getElem hkl
                  have CL2 := Lib.hid (show ∀ W, SliceG W (some ga) l → ga.block < W.heap.size ∧ W.cell? (ga.add k) = some (.int .u64 (l[k] : Nat)) from fun W h => by
                    obtain ⟨_, e, h1, h2⟩ := h k hkl
                    cases e
                    rw [hy] at h2
                    exact ⟨h1, h2⟩)
                  have htm := List.mem_of_getElem? hy
                  have hyu := HU.out _ htm
                  have hwi := HNF.out _ htm
                  have hyin := hv.2.1 _ htm
                  clear hy hca
                  generalize l[k] = y at *
                  have KW := Lib.hid fun w => to_n (within_ok s y (rowsOf n) w hR FIN.out.2.1 hyin.2.1)
                  rw [decide_eq_false (fun h => hwi ((below_way FIN.out hyin).1 h).1)] at KW
                  have HB5 := Lib.hid hb5; have HL5 := Lib.hid hl5; have HW5 := Lib.hid hw5; have HN5 := Lib.hid hn5
                  have k1 : (k : Int) < l.length := by omega
                  clear hb5 hl5 hw5 hn5 hwi htm hyin
                  go_wp2_with fail
                  refine wp_region_seq (S := fun w' => SliceAt w' A2 lw ∧ SliceAt w' (some ⟨g3, 0, none⟩) ln ∧ SliceG w' (some ga) l ∧ Below w.heap.size w w') (by kernel_rfl) (by kernel_rfl) ⟨HW5.out, HN5.out, HL5.out, HB5.out.drew⟩ ?_
                  repeat (first
                    | (refine SeqS.skip ?_ ?_; rfl; (try simp only [Act.put, List.setIfInBounds_toArray, List.set_cons_zero, List.set_cons_succ]))
                    | (refine SeqS.take (v := ?_) ?_ ?_ ?_; rotate_left; rfl; (intro w hS; have hc1 := CELL.out _ hS.2.1; have hg1 := GLT.out _ hS.2.1; have hc3 := CL2.out _ hS.2.2.1; have hc4 := hc3.1; have hc5 := hc3.2; go_simp; with_reducible rfl); (try simp only [Act.put, List.setIfInBounds_toArray, List.set_cons_zero, List.set_cons_succ]))
                    | (refine SeqS.call (v := ?_) (f := ?_) (args := ?_) ?_ ?_ ?_ ?_; rotate_left 3; rfl; (intro w hS; have hc1 := CELL.out _ hS.2.1; have hg1 := GLT.out _ hS.2.1; have hc3 := CL2.out _ hS.2.2.1; have hc4 := hc3.1; have hc5 := hc3.2; go_simp; (first | with_reducible rfl | (refine ⟨?_, ?_⟩ <;> with_reducible rfl))); (intro w hS; first | ((with_reducible refine (KW.out _).mono ?_); rintro e w' ⟨rfl, hb⟩; refine ⟨?_, HST.out _ _ hS hb⟩; with_reducible rfl)); (try simp only [Act.put, List.setIfInBounds_toArray, List.set_cons_zero, List.set_cons_succ])))
                  refine SeqS.done ?_
                  rintro wy ⟨hz1, hz2, hz3, hz4⟩
                  have HZ1 := Lib.hid hz1; have HZ2 := Lib.hid hz2; have HZ3 := Lib.hid hz3; have HZ4 := Lib.hid hz4
                  clear hz1 hz2 hz3 hz4
                  go_wp2_with fail
                  exact ⟨⟨k + 1, by omega, by go_num, HZ4.out, HZ3.out, HZ1.out, HZ2.out⟩, by simp [intOf]; omega⟩
                · obtain rfl : k = l.length := by omega
                  have HB5 := Lib.hid hb5; have HL5 := Lib.hid hl5; have HW5 := Lib.hid hw5; have HN5 := Lib.hid hn5
                  clear hb5 hl5 hw5 hn5
                  go_wp2_with fail
                  exact ⟨⟨0 + 1, by omega, by go_num, HB5.out, HL5.out, HW5.out, HN5.out⟩, by simp [intOf]; omega⟩
            · obtain ⟨j, rfl⟩ : ∃ j, i = j + 1 := ⟨i - 1, by omega⟩
              have hjx : ln[j]? = some ln[j] := List.getElem?_eq_getElem (by omega)
              have CELJ := Lib.hid (show ∀ W, SliceAt W (some ⟨g3, 0, none⟩) ln → W.cell? ⟨g3, j, none⟩ = some (.int .u64 (ln[j] : Nat)) from fun W h => by
                obtain ⟨_, e, h1, h2⟩ := h j (by omega)
                cases e
                rw [hjx] at h2
                exact h2)
              have hlt2 := need_at HN.out (show j < j + 1 by omega) hjx HX.out
              clear hjx
              generalize ln[j] = s0 at *
              have hge : ¬ s ≤ s0 := by omega
              have hj1 : (j : Int) < ln.length := by omega
              clear hlt2 h0
              rewrite [show ((j + 1 : Nat) : Int) = (j : Int) + 1 from by omega] at i1 ⊢
              have j0 : (0 : Int) ≤ (j : Int) + 1 := by omega
              have jb : IntKind.i64.wrap (j : Int) = j := IntWalk.i64_in _ (by omega)
              refine wp_region_seq (S := fun w' => SliceAt w' A2 lw ∧ SliceAt w' (some ⟨g3, 0, none⟩) ln ∧ SliceG w' A1 l ∧ Below w.heap.size w w') (by kernel_rfl) (by kernel_rfl) ⟨HWR.out, HNR.out, HLR.out, HBR.out.drew⟩ ?_
              repeat (first
                | (refine SeqS.skip ?_ ?_; rfl; (try simp only [Act.put, List.setIfInBounds_toArray, List.set_cons_zero, List.set_cons_succ]))
                | (refine SeqS.take (v := ?_) ?_ ?_ ?_; rotate_left; rfl; (intro w hS; have hc1 := CELL.out _ hS.2.1; have hg1 := GLT.out _ hS.2.1; have hc2 := CELJ.out _ hS.2.1; go_simp; with_reducible rfl); (try simp only [Act.put, List.setIfInBounds_toArray, List.set_cons_zero, List.set_cons_succ]))
                | (refine SeqS.call (v := ?_) (f := ?_) (args := ?_) ?_ ?_ ?_ ?_; rotate_left 3; rfl; (intro w hS; have hc1 := CELL.out _ hS.2.1; have hg1 := GLT.out _ hS.2.1; have hc2 := CELJ.out _ hS.2.1; go_simp; (first | with_reducible rfl | (refine ⟨?_, ?_⟩ <;> with_reducible rfl))); (intro w hS; first | ((with_reducible refine (K1.out _ (hS.1)).mono ?_); rintro e w' ⟨rfl, hb⟩; refine ⟨?_, HST.out _ _ hS hb⟩; with_reducible rfl) | ((with_reducible refine (K2.out _ (hS.1)).mono ?_); rintro e w' ⟨rfl, hb⟩; refine ⟨?_, HST.out _ _ hS hb⟩; with_reducible rfl)); (try simp only [Act.put, List.setIfInBounds_toArray, List.set_cons_zero, List.set_cons_succ])))
              refine SeqS.done ?_
              rintro wz ⟨hz1, hz2, hz3, hz4⟩
              have HZ1 := Lib.hid hz1; have HZ2 := Lib.hid hz2; have HZ3 := Lib.hid hz3; have HZ4 := Lib.hid hz4
              clear hz1 hz2 hz3 hz4
              go_wp2_with fail
              have hz1 := HZ1.out; have hz2 := HZ2.out; have hz3 := HZ3.out; have hz4 := HZ4.out
              go_loopw [18] (fun v18 w3 => ∃ k : Nat, k ≤ l.length ∧ v18 = .int .i64 k ∧ Below w.heap.size w w3 ∧ SliceG w3 A1 l ∧ SliceAt w3 A2 lw ∧ SliceAt w3 (some ⟨g3, 0, none⟩) ln) (fun v18 _ => l.length - (intOf v18).toNat)
              case atStart => exact ⟨0, by omega, rfl, hz4, hz3, hz1, hz2⟩
              case round =>
                obtain ⟨k, hk, rfl, hb5, hl5, hw5, hn5⟩ := hrel
                clear hz1 hz2 hz3 hz4
                by_cases hkl : k < l.length
                · obtain ⟨ga, rfl, hga, hca⟩ := hl5 k hkl
                  have hy : l[k]? = some l[k] := List.getElem?_eq_getElem hkl
                  have CL2 := Lib.hid (show ∀ W, SliceG W (some ga) l → ga.block < W.heap.size ∧ W.cell? (ga.add k) = some (.int .u64 (l[k] : Nat)) from fun W h => by
                    obtain ⟨_, e, h1, h2⟩ := h k hkl
                    cases e
                    rw [hy] at h2
                    exact ⟨h1, h2⟩)
                  have htm := List.mem_of_getElem? hy
                  have hyu := HU.out _ htm
                  have hwi := HNF.out _ htm
                  have hyin := hv.2.1 _ htm
                  clear hy hca
                  generalize l[k] = y at *
                  have KW := Lib.hid fun w => to_n (within_ok s y (rowsOf n) w hR FIN.out.2.1 hyin.2.1)
                  rw [decide_eq_false (fun h => hwi ((below_way FIN.out hyin).1 h).1)] at KW
                  have HB5 := Lib.hid hb5; have HL5 := Lib.hid hl5; have HW5 := Lib.hid hw5; have HN5 := Lib.hid hn5
                  have k1 : (k : Int) < l.length := by omega
                  clear hb5 hl5 hw5 hn5 hwi htm hyin
                  go_wp2_with fail
                  refine wp_region_seq (S := fun w' => SliceAt w' A2 lw ∧ SliceAt w' (some ⟨g3, 0, none⟩) ln ∧ SliceG w' (some ga) l ∧ Below w.heap.size w w') (by kernel_rfl) (by kernel_rfl) ⟨HW5.out, HN5.out, HL5.out, HB5.out.drew⟩ ?_
                  repeat (first
                    | (refine SeqS.skip ?_ ?_; rfl; (try simp only [Act.put, List.setIfInBounds_toArray, List.set_cons_zero, List.set_cons_succ]))
                    | (refine SeqS.take (v := ?_) ?_ ?_ ?_; rotate_left; rfl; (intro w hS; have hc1 := CELL.out _ hS.2.1; have hg1 := GLT.out _ hS.2.1; have hc3 := CL2.out _ hS.2.2.1; have hc4 := hc3.1; have hc5 := hc3.2; go_simp; with_reducible rfl); (try simp only [Act.put, List.setIfInBounds_toArray, List.set_cons_zero, List.set_cons_succ]))
                    | (refine SeqS.call (v := ?_) (f := ?_) (args := ?_) ?_ ?_ ?_ ?_; rotate_left 3; rfl; (intro w hS; have hc1 := CELL.out _ hS.2.1; have hg1 := GLT.out _ hS.2.1; have hc3 := CL2.out _ hS.2.2.1; have hc4 := hc3.1; have hc5 := hc3.2; go_simp; (first | with_reducible rfl | (refine ⟨?_, ?_⟩ <;> with_reducible rfl))); (intro w hS; first | ((with_reducible refine (KW.out _).mono ?_); rintro e w' ⟨rfl, hb⟩; refine ⟨?_, HST.out _ _ hS hb⟩; with_reducible rfl)); (try simp only [Act.put, List.setIfInBounds_toArray, List.set_cons_zero, List.set_cons_succ])))
                  refine SeqS.done ?_
                  rintro wy ⟨hz1, hz2, hz3, hz4⟩
                  have HZ1 := Lib.hid hz1; have HZ2 := Lib.hid hz2; have HZ3 := Lib.hid hz3; have HZ4 := Lib.hid hz4
                  clear hz1 hz2 hz3 hz4
                  go_wp2_with fail
                  exact ⟨⟨k + 1, by omega, by go_num, HZ4.out, HZ3.out, HZ1.out, HZ2.out⟩, by simp [intOf]; omega⟩
                · obtain rfl : k = l.length := by omega
                  have HB5 := Lib.hid hb5; have HL5 := Lib.hid hl5; have HW5 := Lib.hid hw5; have HN5 := Lib.hid hn5
                  clear hb5 hl5 hw5 hn5
                  go_wp2_with fail
                  exact ⟨⟨(j + 1) + 1, by omega, by go_num, HB5.out, HL5.out, HW5.out, HN5.out⟩, by simp [intOf]; omega⟩
          · obtain rfl : i = ln.length := by omega
            have HBR := Lib.hid hbr
            clear hwr hnr hlr hbr
            go_wp2_with fail
            refine (works_any _).mono ?_
            rintro e w9 ⟨rfl, hb⟩
            have HB9 := Lib.hid (HBR.out.trans (hb.mono HBR.out.size))
            clear hb
            go_wp2_with fail
            go_ret
            exact ⟨rfl, HB9.out⟩
  · refine (ways_no n l A1 c1 w hnu (by omega) HU.out HS1.out hv).mono ?_
    rintro e w2 ⟨rfl, hb2⟩
    have HB2 := Lib.hid hb2; have HL2 := Lib.hid (SliceG.after HS1.out hb2)
    clear hb2
    go_wp2_with fail
    refine (need_no n l A1 c1 w2 hnu (by omega) HU.out HL2.out hv).mono ?_
    rintro e w3 ⟨rfl, hb3⟩
    have HB3 := Lib.hid (HB2.out.trans (hb3.mono HB2.out.size)); have HL3 := Lib.hid (SliceG.after HL2.out hb3)
    clear hb3
    have CK := Lib.hid fun w h => check_any n l A1 c1 w hnu (by omega) HU.out h 2 (.inr ⟨hv, rfl⟩)
    go_wp2_with fail
    refine (CK.out _ HL3.out).mono ?_
    rintro e w4 ⟨rfl, hb4⟩
    have HB4 := Lib.hid (HB3.out.trans (hb4.mono HB3.out.size))
    clear hb4
    go_wp2_with fail
    refine (works_any _).mono ?_
    rintro e w9 ⟨rfl, hb⟩
    have HB9 := Lib.hid (HB4.out.trans (hb.mono HB4.out.size))
    clear hb
    go_wp2_with fail
    go_ret
    exact ⟨rfl, HB9.out⟩

set_option maxRecDepth 100000 in
theorem law_NeedEnough {H : Type} {enc : TypeId × Value → H} (W : World) (base : Nat) (v0 v1 : Value) (d0 d1 : DataW H) (p0 p1 : List MemPlace)
    (h0 : DataW.Trod enc Try.prog W 0 (fun _ => true) true 22 v0 d0 p0) (h1 : DataW.Trod enc Try.prog W 0 (fun _ => true) true 23 v1 d1 p1)
    (o0 : Value.okWide Try.prog W .any base 22 v0) (o1 : Value.okWide Try.prog W .any base 23 v1) :
    Calls Try.prog 9 #[v0, v1] W fun e w' => e = .returned (.bool true) ∧ Below W.heap.size W w' := by
  obtain ⟨a, rfl, wa⟩ := in_int Try.underlying22 h0 o0
  obtain ⟨n, rfl, hn⟩ := u64_nat wa
  obtain ⟨A, c, l, rfl, hs, hl, hc, hu⟩ := in_nums h1 o1
  exact enough_walk n A c l W hn hl hc hs hu
end Go.Proofs.Ytapdhmaeglafjaa
