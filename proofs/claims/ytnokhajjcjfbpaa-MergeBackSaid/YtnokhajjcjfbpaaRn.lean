/- The document's Need. -/
import Derived.Test.YtnokhajjcjfbpaaRv
import Derived.Test.YtnokhajjcjfbpaaNg
namespace Go.Proofs.Ytnokhajjcjfbpaa
open Go.RowKit Go.Shelf

def RefErr (w : World) (e : Ending) (w' : World) : Prop := e = .returned (.tuple #[.slice none 0 0, .int .i64 2]) ∧ Below w.heap.size w w'
theorem refWays_no (n : Nat) (ts : List Nat) (A : Option Addr) (c : Nat) (w : World) (hlen : ts.length ≤ 1000) (hu : ∀ t ∈ ts, (t : Int) ≤ 18446744073709551615) (hs : SliceG w A ts) (hv : ¬ Valid n ts) :
    Calls Try.prog 29 #[.int .u64 n, .slice A ts.length c] w (RefErr w) := by
  have CK := Lib.hid fun w hs => refCheck_any n ts A c w hlen hu hs
  go_enter Try.func29, Try.ntmps29
  go_wp2_with fail
  refine (CK.out _ hs).mono ?_
  rintro e w1 ⟨v, hvv, rfl, hb1⟩
  obtain rfl : v = 2 := by
    rcases hvv with h | h
    · exact absurd h.1 hv
    · exact h.2
  have HB1 := Lib.hid hb1
  clear hvv hb1
  go_wp2_with fail
  go_ret2
  exact ⟨rfl, HB1.out⟩
theorem refRootIs_any (n p : Nat) (w : World) (h : InF n p) : Calls Try.prog 30 #[.int .u64 n, .int .u64 p] w (NRet (.bool (decide (topK n p = 0))) w) := by
  have hw := refWay_any n p w (by have := inF_u64 h; omega)
  have hl := way_len h
  have E := Lib.hid (show (((topK n p : Int) + 1) == 1) = decide (topK n p = 0) from by
    rw [Bool.eq_iff_iff, beq_iff_eq, decide_eq_true_eq]
    omega)
  go_enter Try.func30, Try.ntmps30
  go_wp2_with fail
  refine hw.mono ?_
  rintro e w1 ⟨A, c, rfl, hown, hbel⟩
  rw [ints_len, hl]
  have HB := Lib.hid hbel
  clear hw hown hbel hl
  generalize topK n p = K at *
  go_wp2_with fail
  go_ret
  exact ⟨by rw [← E.out]; rfl, HB.out⟩

set_option maxHeartbeats 4000000 in
theorem refNeed_yes (n : Nat) (ts : List Nat) (A : Option Addr) (c : Nat) (w : World) (hlen : ts.length ≤ 1000) (hs : SliceG w A ts) (hv : Valid n ts) :
    Calls Try.prog 17 #[.int .u64 n, .slice A ts.length c] w fun e w' => ∃ l, IsNeed n ts l ∧ RefOK l w e w' := by
  have WS := Lib.hid fun w hs => refWays_yes n ts A c w hlen hs hv
  have hn := hv.1
  have hR := rows_le (n := n) (by omega)
  go_enter Try.func17, Try.ntmps17
  go_wp2_with fail
  refine (WS.out _ hs).mono ?_
  rintro e w1 ⟨ws, hw, hwl, Aw, cw, rfl, hLw, hb1⟩
  have HB1 := Lib.hid hb1; have HLW := Lib.hid hLw; have HW := Lib.hid hw
  clear hw hb1 hLw
  go_wp2_with fail
  go_loopw [8, 9, 10, 11] (fun v8 v9 _ _ wr => ∃ (i : Nat) (l : List Nat) (Al : Option Addr) (cl : Nat), i ≤ ws.length ∧ v9 = .int .i64 i ∧ v8 = .slice Al l.length cl ∧ l.Pairwise (fun a b => a < b) ∧ (∀ x, x ∈ l ↔ ∃ p ∈ ws.take i, topK n p ≠ 0 ∧ x = sibOf p ∧ x ∉ ws) ∧ l.length ≤ i ∧ ListV wr Al cl l ∧ Below w1.heap.size w1 wr) (fun _ v9 _ _ _ => ws.length - (intOf v9).toNat)
  case atStart => exact ⟨0, [], none, 0, by omega, rfl, rfl, List.Pairwise.nil, fun x => by simp, by simp, ⟨fun k hk => by simp at hk, by simp, fun _ => rfl, fun ad e => (by cases e)⟩, Below.refl _ _⟩
  case round =>
    obtain ⟨i, l, Al, cl, hi, rfl, rfl, hup, hmem, hll, hL, hbel⟩ := hrel
    by_cases hlt : i < ws.length
    · have hLW := HLW.out.after hbel
      obtain ⟨g, e, hg, hc⟩ := hLW.at' i hlt
      subst e
      have hx : ws[i]? = some ws[i] := List.getElem?_eq_getElem hlt
      rw [hx] at hc
      simp only [Option.map_some] at hc
      have HX := Lib.hid hx
      clear hx
      generalize ws[i] = p at *
      have hon := (HW.out.2 p).1 (List.mem_of_getElem? HX.out)
      have hin := onway_u64 hv hon
      have i1 : (i : Int) < ws.length := by omega
      have RT := Lib.hid fun w => refRootIs_any n p w hin
      have HL := Lib.hid hL; have HM := Lib.hid hmem; have HU := Lib.hid hup; have HBE := Lib.hid hbel; have HLV := Lib.hid hLW
      have hsz := HB1.out.size
      clear hL hmem hup hbel hLW
      by_cases h0 : topK n p = 0
      · rw [decide_eq_true h0] at RT
        have H0 := Lib.hid h0
        clear h0
        go_wp2_with (go_at_call 30; refine (RT.out _).mono ?_; rintro e w2 ⟨rfl, hb2⟩; have HB2 := Lib.hid hb2; clear hb2)
        refine ⟨⟨i + 1, l, Al, cl, by omega, by go_num, rfl, HU.out, fun x => ?_, by omega, HL.out.after HB2.out, HBE.out.trans (HB2.out.mono HBE.out.size)⟩, by simp [intOf]; omega⟩
        rw [HM.out x, List.take_add_one, HX.out]
        constructor
        · rintro ⟨q, h1, h2⟩
          exact ⟨q, List.mem_append.2 (.inl h1), h2⟩
        · rintro ⟨q, h1, h2, h3⟩
          rcases List.mem_append.1 h1 with h4 | h4
          · exact ⟨q, h4, h2, h3⟩
          · simp at h4
            subst h4
            exact absurd H0.out h2
      · rw [decide_eq_false h0] at RT
        obtain ⟨s1, s2⟩ := sib_in hin h0
        have hsu := inF_u64 s2
        have KS := Lib.hid fun w => to_n (refSib_yes p (rowsOf n) w hR s1)
        have KR := Lib.hid fun w => to_n (refRows12 n w hn)
        have H0 := Lib.hid h0
        clear h0 s1 s2
        generalize hsp : sibOf p = sp at *
        have HSP := Lib.hid hsp
        clear hsp
        go_wp2_with (go_at_call 30; refine (RT.out _).mono ?_; rintro e w2 ⟨rfl, hb2⟩; have HB2 := Lib.hid hb2; clear hb2)
        have hc2 := (HB2.out.cell (p := ⟨g, i, none⟩) hg).trans hc
        have hg2 : g < w2.heap.size := by have := HB2.out.size; omega
        have HBF := Lib.hid (HBE.out.trans (HB2.out.mono HBE.out.size))
        refine wp_region_seq (S := fun w' => w'.cell? ⟨g, i, none⟩ = some (.int .u64 p) ∧ g < w'.heap.size ∧ Below w2.heap.size w2 w') (by kernel_rfl) (by kernel_rfl) ⟨hc2, hg2, (Below.refl _ w2).drew⟩ ?_
        have HST := Lib.hid (show ∀ w1' w2' : World, (w1'.cell? ⟨g, i, none⟩ = some (.int .u64 p) ∧ g < w1'.heap.size ∧ Below w2.heap.size w2 w1') → Below w1'.heap.size w1' w2' → (w2'.cell? ⟨g, i, none⟩ = some (.int .u64 p) ∧ g < w2'.heap.size ∧ Below w2.heap.size w2 w2') from fun _ _ h hb => ⟨(hb.cell (p := ⟨g, i, none⟩) h.2.1).trans h.1, by have := hb.size; omega, h.2.2.trans (hb.mono h.2.2.size)⟩)
        clear hc hc2
        repeat (first
          | (refine SeqS.skip ?_ ?_; rfl; (try simp only [Act.put, List.setIfInBounds_toArray, List.set_cons_zero, List.set_cons_succ]))
          | (refine SeqS.take (v := ?_) ?_ ?_ ?_; rotate_left; rfl; (intro w hS; have hc1 := hS.1; go_simp; with_reducible rfl); (try simp only [Act.put, List.setIfInBounds_toArray, List.set_cons_zero, List.set_cons_succ]))
          | (refine SeqS.call (v := ?_) (f := ?_) (args := ?_) ?_ ?_ ?_ ?_; rotate_left 3; rfl; (intro w hS; have hc1 := hS.1; go_simp; (first | with_reducible rfl | (refine ⟨?_, ?_⟩ <;> with_reducible rfl))); (intro w hS; first | ((with_reducible refine (KR.out _).mono ?_); rintro e w' ⟨rfl, hb⟩; refine ⟨?_, HST.out _ _ hS hb⟩; with_reducible rfl) | ((with_reducible refine (KS.out _).mono ?_); rintro e w' ⟨rfl, hb⟩; refine ⟨?_, HST.out _ _ hS hb⟩; with_reducible rfl)); (try simp only [Act.put, List.setIfInBounds_toArray, List.set_cons_zero, List.set_cons_succ])))
        refine SeqS.done ?_
        rintro wz ⟨_, _, hbz⟩
        have HBZ := Lib.hid hbz
        have HLZ := Lib.hid ((HLV.out.after HB2.out).after hbz)
        have HH := Lib.hid (has_list ws (some ⟨g, 0, none⟩) cw sp wz (by omega) HLZ.out.at'.gen)
        have HLL := Lib.hid ((HL.out.after HB2.out).after hbz)
        have HBB := Lib.hid (HBF.out.trans (hbz.mono HBF.out.size))
        clear hbz
        by_cases hm : sp ∈ ws
        · rw [decide_eq_true hm] at HH
          have HMM := Lib.hid hm
          clear hm
          go_wp2_with (go_at_call 33; refine HH.out.mono ?_; rintro e w' ⟨rfl, rfl⟩)
          refine ⟨⟨i + 1, l, Al, cl, by omega, by go_num, rfl, HU.out, fun x => ?_, by omega, HLL.out, HBB.out⟩, by simp [intOf]; omega⟩
          rw [HM.out x, List.take_add_one, HX.out]
          constructor
          · rintro ⟨q, h1, h2⟩
            exact ⟨q, List.mem_append.2 (.inl h1), h2⟩
          · rintro ⟨q, h1, h2, h3, h5⟩
            rcases List.mem_append.1 h1 with h4 | h4
            · exact ⟨q, h4, h2, h3, h5⟩
            · simp at h4
              subst h4
              rw [h3, HSP.out] at h5
              exact absurd HMM.out h5
        · rw [decide_eq_false hm] at HH
          have HMM := Lib.hid hm
          clear hm
          have AD := Lib.hid (add_list l Al cl sp wz (by omega) HLL.out HU.out)
          go_wp2_with (first
            | (go_at_call 33; refine HH.out.mono ?_; rintro e w' ⟨rfl, rfl⟩)
            | (go_at_call 34; refine AD.out.mono ?_; rintro e w4 ⟨L, A4, c4, hA, rfl, hL4, hb4⟩; have HA := Lib.hid hA; have HL4 := Lib.hid hL4; have HB4 := Lib.hid hb4; clear hA hL4 hb4))
          refine ⟨⟨i + 1, L, A4, c4, by omega, by go_num, rfl, HA.out.up, fun x => ?_, by have := HA.out.len; omega, HL4.out, HBB.out.trans (HB4.out.mono HBB.out.size)⟩, by simp [intOf]; omega⟩
          rw [HA.out.mem, HM.out x, List.take_add_one, HX.out]
          constructor
          · rintro (⟨q, h1, h2⟩ | h)
            · exact ⟨q, List.mem_append.2 (.inl h1), h2⟩
            · exact ⟨p, by simp, H0.out, by rw [h, HSP.out], by rw [h]; exact HMM.out⟩
          · rintro ⟨q, h1, h2, h3, h5⟩
            rcases List.mem_append.1 h1 with h4 | h4
            · exact .inl ⟨q, h4, h2, h3, h5⟩
            · simp at h4
              subst h4
              exact .inr (by rw [h3, HSP.out])
    · obtain rfl : i = ws.length := by omega
      rw [List.take_length] at hmem
      have HM := Lib.hid hmem
      clear hmem
      go_wp2_with fail
      go_ret2
      refine ⟨l, ⟨hup, fun x => ?_⟩, Al, cl, rfl, hL, HB1.out.trans (hbel.mono HB1.out.size)⟩
      rw [HM.out x]
      constructor
      · rintro ⟨p, h1, h2, h3, h4⟩
        exact ⟨p, (HW.out.2 p).1 h1, h2, h3, fun h => h4 ((HW.out.2 x).2 h)⟩
      · rintro ⟨p, h1, h2, h3, h4⟩
        exact ⟨p, (HW.out.2 p).2 h1, h2, h3, fun h => h4 ((HW.out.2 x).1 h)⟩
theorem refNeed_no (n : Nat) (ts : List Nat) (A : Option Addr) (c : Nat) (w : World) (hlen : ts.length ≤ 1000) (hu : ∀ t ∈ ts, (t : Int) ≤ 18446744073709551615) (hs : SliceG w A ts) (hv : ¬ Valid n ts) :
    Calls Try.prog 17 #[.int .u64 n, .slice A ts.length c] w (RefErr w) := by
  have WS := Lib.hid (refWays_no n ts A c w hlen hu hs hv)
  go_enter Try.func17, Try.ntmps17
  go_wp2_with fail
  refine WS.out.mono ?_
  rintro e w1 ⟨rfl, hb1⟩
  have HB1 := Lib.hid hb1
  clear hb1
  go_wp2_with fail
  go_ret2
  exact ⟨rfl, HB1.out⟩
end Go.Proofs.Ytnokhajjcjfbpaa
