/- The document's Moved. -/
import Derived.Test.YtapdhmaeglafjaaRe
namespace Go.Proofs.Ytapdhmaeglafjaa
open Go.RowKit Go.Shelf

theorem gone_sib {n p x : Nat} {ts : List Nat} (hin : InF n p) (hg : goneB n ts p = false) (hx : x ∈ wayOf n p) (h0 : topK n x ≠ 0) : goneB n ts (sibOf x) = emp n ts (sibOf x) := by
  have hxi := in_way hin hx
  obtain ⟨s1, s2, s3, s4, s5, s6⟩ := top_sib hxi h0
  have w1 := (par_in s1 (by omega)).2.2.2.1
  rw [s3] at w1
  refine gone_at (fun a ha hm => ?_) w1
  have hm2 := way_trans hin hx (by rw [(par_in hxi h0).2.2.2.1]; exact List.mem_cons_of_mem _ ha)
  unfold goneB at hg
  rw [Bool.or_eq_false_iff, List.any_eq_false] at hg
  have := hg.1 a hm2
  simp at this
  exact this hm

theorem refMoved_no (n : Nat) (ts : List Nat) (A : Option Addr) (c p : Nat) (w : World) (hpu : (p : Int) ≤ 18446744073709551615) (hlen : ts.length ≤ 1000) (hu : ∀ t ∈ ts, (t : Int) ≤ 18446744073709551615) (hs : SliceG w A ts) (hno : ¬ (Valid n ts ∧ InF n p)) :
    Calls Try.prog 21 #[.int .u64 n, .slice A ts.length c, .int .u64 p] w (NRet (.tuple #[.int .u64 0, .bool false, .int .i64 2]) w) := by
  have CK := Lib.hid (refCheck_any n ts A c w hlen hu hs)
  have IS := Lib.hid fun w => refIs_any n p w hpu
  go_enter Try.func21, Try.ntmps21
  go_wp2_with fail
  refine CK.out.mono ?_
  rintro e w1 ⟨v, hvv, rfl, hb1⟩
  have HB1 := Lib.hid hb1
  clear hb1
  rcases hvv with ⟨hv, rfl⟩ | ⟨hv, rfl⟩
  · rw [decide_eq_false (fun h => hno ⟨hv, h⟩)] at IS
    go_wp2_with (go_at_call 44; refine (IS.out _).mono ?_; rintro e w2 ⟨rfl, hb2⟩; have HB2 := Lib.hid (HB1.out.trans (hb2.mono HB1.out.size)); clear hb2)
    go_ret3
    exact ⟨rfl, HB2.out⟩
  · go_wp2_with fail
    go_ret3
    exact ⟨rfl, HB1.out⟩

theorem refMoved_gone (n : Nat) (ts : List Nat) (A : Option Addr) (c p : Nat) (w : World) (hlen : ts.length ≤ 1000) (hs : SliceG w A ts) (hv : Valid n ts) (hin : InF n p) (hg : goneB n ts p = true) :
    Calls Try.prog 21 #[.int .u64 n, .slice A ts.length c, .int .u64 p] w (NRet (.tuple #[.int .u64 0, .bool false, .int .i64 0]) w) := by
  have hu := valid_u64 hv
  have hpu := inF_u64 hin
  have CK := Lib.hid (refCheck_any n ts A c w hlen hu hs)
  have IS := Lib.hid fun w => refIs_any n p w (by omega)
  rw [decide_eq_true hin] at IS
  have EM := Lib.hid fun w h => refEmpty_any A c hv hlen _ p w hin rfl h
  rw [hg] at EM
  go_enter Try.func21, Try.ntmps21
  go_wp2_with fail
  refine CK.out.mono ?_
  rintro e w1 ⟨v, hvv, rfl, hb1⟩
  obtain rfl : v = 0 := by
    rcases hvv with h | h
    · exact h.2
    · exact absurd hv h.1
  have HB1 := Lib.hid hb1
  have HS1 := Lib.hid (SliceG.after hs hb1)
  clear hvv hb1
  go_wp2_with (go_at_call 44; refine (IS.out _).mono ?_; rintro e w2 ⟨rfl, hb2⟩; have HB2 := Lib.hid (HB1.out.trans (hb2.mono HB1.out.size)); have HS2 := Lib.hid (SliceG.after HS1.out hb2); clear hb2)
  go_wp2_with fail
  refine (EM.out _ HS2.out).mono ?_
  rintro e w3 ⟨rfl, hb3⟩
  have HB3 := Lib.hid (HB2.out.trans (hb3.mono HB2.out.size))
  clear hb3
  go_wp2_with fail
  go_ret3
  exact ⟨rfl, HB3.out⟩

set_option maxHeartbeats 4000000 in
set_option maxRecDepth 100000 in
theorem refMoved_yes (n : Nat) (ts : List Nat) (A : Option Addr) (c p : Nat) (w : World) (hlen : ts.length ≤ 1000) (hs : SliceG w A ts) (hv : Valid n ts) (hin : InF n p) (hg : goneB n ts p = false) :
    Calls Try.prog 21 #[.int .u64 n, .slice A ts.length c, .int .u64 p] w (NRet (.tuple #[.int .u64 (movedF n ts p : Nat), .bool true, .int .i64 0]) w) := by
  have hu := valid_u64 hv
  have hpu := inF_u64 hin
  have hn := hv.1
  have hR := rows_le (n := n) (by omega)
  have CK := Lib.hid (refCheck_any n ts A c w hlen hu hs)
  have IS := Lib.hid fun w => refIs_any n p w (by omega)
  rw [decide_eq_true hin] at IS
  have EM := Lib.hid fun x w hx h => refEmpty_any A c hv hlen _ x w hx rfl h
  have EM1 := Lib.hid fun w h => EM.out p w hin h
  rw [hg] at EM1
  have WY := Lib.hid fun w => refWay_any n p w (by omega)
  have hwl := way_len hin
  obtain ⟨T, hT⟩ : ∃ T, topK n p = T := ⟨_, rfl⟩
  rw [hT] at hwl
  have HT := Lib.hid hT
  have hT64 : T ≤ 63 := by have := way_short n p; omega
  go_enter Try.func21, Try.ntmps21
  go_wp2_with fail
  refine CK.out.mono ?_
  rintro e w1 ⟨v, hvv, rfl, hb1⟩
  obtain rfl : v = 0 := by
    rcases hvv with h | h
    · exact h.2
    · exact absurd hv h.1
  have HB1 := Lib.hid hb1
  have HS1 := Lib.hid (SliceG.after hs hb1)
  clear hvv hb1
  go_wp2_with (go_at_call 44; refine (IS.out _).mono ?_; rintro e w2 ⟨rfl, hb2⟩; have HB2 := Lib.hid (HB1.out.trans (hb2.mono HB1.out.size)); have HS2 := Lib.hid (SliceG.after HS1.out hb2); clear hb2)
  go_wp2_with fail
  refine (EM1.out _ HS2.out).mono ?_
  rintro e w3 ⟨rfl, hb3⟩
  have HB3 := Lib.hid (HB2.out.trans (hb3.mono HB2.out.size))
  have HS3 := Lib.hid (SliceG.after HS2.out hb3)
  clear hb3
  go_wp2_with (go_at_call 49; refine (WY.out _).mono ?_; rintro e w4 ⟨Aw, cw, rfl, hown, hb4⟩; rw [ints_len, hwl]; have HSW := Lib.hid (SliceAt.of_own hown (by rw [ints_len])); have HB4 := Lib.hid (HB3.out.trans (hb4.mono HB3.out.size)); have HS4 := Lib.hid (SliceG.after HS3.out hb4); clear hown hb4; obtain ⟨gw, hgw, hgl, hcl⟩ := HSW.out T (by omega); subst hgw; rw [way_get hin (by rw [HT.out]; exact Nat.le_refl _)] at hcl; simp only [Option.map_some] at hcl)
  clear CK IS EM1 WY HB1 HS1 HB2 HS2 HB3 HS3 hs
  have hb4 := HB4.out
  have hs4 := HS4.out
  have hsw4 := HSW.out
  go_loopw [10, 11, 12, 13, 14, 15] (fun v10 v11 _ _ _ _ wr => ∃ k : Nat, k ≤ T ∧ v11 = .int .i64 ((T : Int) - 1 - k) ∧ v10 = .int .u64 (mvAt n ts p k : Nat) ∧ Below w.heap.size w wr ∧ SliceG wr A ts ∧ SliceAt wr (some ⟨gw, 0, none⟩) (wayOf n p)) (fun _ v11 _ _ _ _ _ => (intOf v11 + 1).toNat)
  case atStart => exact ⟨0, by omega, by congr 1; omega, by rw [mv_zero]; unfold atD; rw [HT.out]; rfl, hb4, hs4, hsw4⟩
  case round =>
    obtain ⟨k, hk, rfl, rfl, hbel, hsr, hswr⟩ := hrel
    clear hb4 hs4 hsw4 hcl
    by_cases hlt : k < T
    · obtain ⟨m, hm⟩ : ∃ m : Nat, m = T - 1 - k := ⟨_, rfl⟩
      have em : (T : Int) - 1 - k = (m : Nat) := by omega
      obtain ⟨_, e, hg2, hc⟩ := hswr m (by omega)
      cases e
      rw [way_get hin (by omega)] at hc
      simp only [Option.map_some] at hc
      have WQ := Lib.hid (way_get hin (i := m) (by omega))
      have hxw : anc p (rowsOf n) m ∈ wayOf n p := (mem_way hin).2 ⟨m, by omega, rfl⟩
      obtain ⟨x1, x2, _⟩ := way_above hin (i := m) (by omega)
      obtain ⟨s1, s2⟩ := sib_in x1 (by omega)
      have gs := gone_sib hin hg hxw (by omega)
      have nx := mv_next n ts p k
      rw [show atD n p (k + 1) = anc p (rowsOf n) m from by unfold atD; congr 1; omega] at nx
      obtain ⟨c1, c2⟩ := mv_child ts hin (k := k) (by omega)
      obtain ⟨k1, k2, k3, k4, k5, k6, k7⟩ := child_in c1 c2
      have KS := Lib.hid fun w => to_n (refSib_yes (anc p (rowsOf n) m) (rowsOf n) w hR s1)
      have KR := Lib.hid fun w => to_n (refRows12 n w hn)
      have LF := Lib.hid fun w => refLeft_yes (mvAt n ts p k) (rowsOf n) w hR c1.2.1 k1
      have KQ := Lib.hid fun w => refRows12 n w hn
      have ES := Lib.hid fun w h => EM.out (sibOf (anc p (rowsOf n) m)) w s2 h
      rw [gs] at ES
      unfold mvStep at nx
      have hlu := inF_u64 k3
      have hxu := inF_u64 x1
      have NX := Lib.hid nx
      have HBE := Lib.hid hbel
      have HSR := Lib.hid hsr
      have HSW2 := Lib.hid hswr
      clear hswr hsr nx gs hxw x1 x2 s1 s2 c1 c2 k1 k2 k3 k4 k5 k6 k7 EM
      rw [em]
      clear em
      generalize anc p (rowsOf n) m = q at *
      generalize sibOf q = sp at *
      generalize leftOf (mvAt n ts p k) (rowsOf n) = L at *
      have m0 : (0 : Int) ≤ m := by omega
      have m1 : (m : Int) < (T : Int) + 1 := by omega
      have HM := Lib.hid hm
      clear hm
      generalize mvAt n ts p k = pl at *
      go_wp2_with fail
      refine wp_region_seq (S := fun w' => w'.cell? ⟨gw, m, none⟩ = some (.int .u64 q) ∧ gw < w'.heap.size ∧ Below wr.heap.size wr w') (by kernel_rfl) (by kernel_rfl) ⟨hc, hg2, (Below.refl _ wr).drew⟩ ?_
      have HST := Lib.hid (show ∀ w1' w2' : World, (w1'.cell? ⟨gw, m, none⟩ = some (.int .u64 q) ∧ gw < w1'.heap.size ∧ Below wr.heap.size wr w1') → Below w1'.heap.size w1' w2' → (w2'.cell? ⟨gw, m, none⟩ = some (.int .u64 q) ∧ gw < w2'.heap.size ∧ Below wr.heap.size wr w2') from fun _ _ h hb => ⟨(hb.cell (p := ⟨gw, m, none⟩) h.2.1).trans h.1, by have := hb.size; omega, h.2.2.trans (hb.mono h.2.2.size)⟩)
      clear hc hbel
      repeat (first
        | (refine SeqS.skip ?_ ?_; rfl; (try simp only [Act.put, List.setIfInBounds_toArray, List.set_cons_zero, List.set_cons_succ]))
        | (refine SeqS.take (v := ?_) ?_ ?_ ?_; rotate_left; rfl; (intro w hS; have hc1 := hS.1; go_simp; with_reducible rfl); (try simp only [Act.put, List.setIfInBounds_toArray, List.set_cons_zero, List.set_cons_succ]))
        | (refine SeqS.call (v := ?_) (f := ?_) (args := ?_) ?_ ?_ ?_ ?_; rotate_left 3; rfl; (intro w hS; have hc1 := hS.1; go_simp; (first | with_reducible rfl | (refine ⟨?_, ?_⟩ <;> with_reducible rfl))); (intro w hS; first | ((with_reducible refine (KR.out _).mono ?_); rintro e w' ⟨rfl, hb⟩; refine ⟨?_, HST.out _ _ hS hb⟩; with_reducible rfl) | ((with_reducible refine (KS.out _).mono ?_); rintro e w' ⟨rfl, hb⟩; refine ⟨?_, HST.out _ _ hS hb⟩; with_reducible rfl)); (try simp only [Act.put, List.setIfInBounds_toArray, List.set_cons_zero, List.set_cons_succ])))
      refine SeqS.done ?_
      rintro wz ⟨_, _, hbz⟩
      have HBZ := Lib.hid (HBE.out.trans (hbz.mono HBE.out.size))
      have HSZ := Lib.hid (SliceG.after HSR.out hbz)
      have HWZ := Lib.hid (SliceAt.after HSW2.out hbz)
      clear hbz
      go_wp2_with fail
      refine (ES.out _ HSZ.out).mono ?_
      rintro e w5 ⟨rfl, hb5⟩
      have HB5 := Lib.hid (HBZ.out.trans (hb5.mono HBZ.out.size))
      have HS5 := Lib.hid (SliceG.after HSZ.out hb5)
      have HW5 := Lib.hid (SliceAt.after HWZ.out hb5)
      clear hb5
      obtain ⟨b, hb⟩ : ∃ b, emp n ts sp = b := ⟨_, rfl⟩
      rw [hb] at NX ⊢
      clear hb ES
      cases b
      · have N2 := Lib.hid NX.out
        rw [if_neg (by simp)] at N2
        obtain ⟨_, e, hg6, hc6⟩ := HW5.out m (by omega)
        cases e
        rw [WQ.out] at hc6
        simp only [Option.map_some] at hc6
        have hlu3 : (L : Int) + 1 ≤ 18446744073709551614 := by omega
        have e0 : (0 : Int) ≤ (q : Int) % 2 := by omega
        have e1 : (q : Int) % 2 ≤ 1 := by omega
        clear hlu
        go_wp2_with (first
          | (go_at_call 51; refine (KQ.out _).mono ?_; rintro e w' ⟨rfl, d1, rfl⟩)
          | (go_at_call 52; refine (LF.out _).mono ?_; rintro e w' ⟨rfl, d2, rfl⟩))
        refine ⟨⟨k + 1, by omega, by have := HM.out; congr 1 <;> omega, by rw [N2.out]; congr 1 <;> omega, bel_drewN HB5.out _, SliceG.after HS5.out (bel_drewN (Below.refl _ _) _), SliceAt.after HW5.out (bel_drewN (Below.refl _ _) _)⟩, by simp [intOf]⟩
      · have N2 := Lib.hid NX.out
        rw [if_pos rfl] at N2
        go_wp2_with fail
        exact ⟨⟨k + 1, by omega, by have := HM.out; congr 1 <;> omega, by rw [N2.out], HB5.out, HS5.out, HW5.out⟩, by simp [intOf]⟩
    · obtain rfl : k = T := by omega
      rw [show (k : Int) - 1 - (k : Nat) = -1 from by omega]
      have MV := Lib.hid (show movedF n ts p = mvAt n ts p k from by unfold movedF; rw [HT.out])
      go_wp2_with fail
      go_ret3
      exact ⟨by rw [MV.out]; rfl, hbel⟩
end Go.Proofs.Ytapdhmaeglafjaa
