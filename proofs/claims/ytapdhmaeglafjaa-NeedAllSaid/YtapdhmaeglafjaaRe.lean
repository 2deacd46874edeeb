/- The document's Empty, Gone. -/
import Derived.Test.YtapdhmaeglafjaaRn
import Derived.Test.YtapdhmaeglafjaaPa
namespace Go.Proofs.Ytapdhmaeglafjaa
open Go.RowKit Go.Shelf

theorem emp_target {n p : Nat} {ts : List Nat} (h : p ∈ ts) : emp n ts p = true := by
  unfold emp
  cases rowOf p (rowsOf n) with
  | zero => exact decide_eq_true h
  | succ r => exact if_pos h
theorem emp_off {n p : Nat} {ts : List Nat} (h : p ∉ ts) (ho : ¬ OnWay n ts p) : emp n ts p = false := by
  unfold emp
  cases rowOf p (rowsOf n) with
  | zero => exact decide_eq_false h
  | succ r =>
    unfold empF
    rw [if_neg h, if_neg (fun e => ho ((onB_iff n ts p).1 e))]
theorem emp_on {n p : Nat} {ts : List Nat} (hin : InF n p) (h : p ∉ ts) (ho : OnWay n ts p) (h0 : 1 ≤ rowOf p (rowsOf n)) : emp n ts p = (emp n ts (leftOf p (rowsOf n)) && emp n ts (leftOf p (rowsOf n) + 1)) := by
  obtain ⟨k1, k2, k3, k4, k5, k6, k7⟩ := child_in hin h0
  unfold emp
  rw [k4, k5]
  obtain ⟨r, hr⟩ : ∃ r, rowOf p (rowsOf n) = r + 1 := ⟨rowOf p (rowsOf n) - 1, by omega⟩
  rw [hr, Nat.add_sub_cancel]
  show (if _ then _ else _) = _
  rw [if_neg h, if_pos ((onB_iff n ts p).2 ho)]
theorem gone_at {n p x : Nat} {ts : List Nat} (h : ∀ a ∈ wayOf n p, a ∉ ts) (hx : wayOf n x = x :: wayOf n p) : goneB n ts x = emp n ts x := by
  unfold goneB
  rw [hx, List.any_cons, show (wayOf n p).any (fun a => decide (a ∈ ts)) = false from by
    rw [List.any_eq_false]
    intro a ha
    simpa using h a ha, Bool.or_false]
  by_cases hm : x ∈ ts
  · rw [emp_target hm, decide_eq_true hm]; rfl
  · rw [decide_eq_false hm]; rfl
theorem gone_cases {n p : Nat} {ts : List Nat} (hv : Valid n ts) (hin : InF n p) (h : ∀ a ∈ wayOf n p, a ∉ ts) :
    (¬ OnWay n ts p ∧ goneB n ts p = false) ∨ (OnWay n ts p ∧ 1 ≤ rowOf p (rowsOf n) ∧ goneB n ts p = (goneB n ts (leftOf p (rowsOf n)) && goneB n ts (leftOf p (rowsOf n) + 1))) := by
  have hp : p ∉ ts := h p (way_self hin)
  have e : goneB n ts p = emp n ts p := by
    unfold goneB
    rw [show (wayOf n p).any (fun a => decide (a ∈ ts)) = false from by
      rw [List.any_eq_false]
      intro a ha
      simpa using h a ha]
    rfl
  by_cases ho : OnWay n ts p
  · have h0 := target_leaf hv ho hp
    obtain ⟨w1, w2⟩ := child_way hin h0
    exact .inr ⟨ho, h0, by rw [e, emp_on hin hp ho h0, gone_at h w1, gone_at h w2]⟩
  · exact .inl ⟨ho, by rw [e, emp_off hp ho]⟩
theorem onB_next {n i t p : Nat} {ts : List Nat} (h : ts[i]? = some t) : onB n (ts.take (i + 1)) p = (onB n (ts.take i) p || decide (p ∈ wayOf n t)) := by
  unfold onB
  rw [List.take_add_one, h, List.any_append]
  simp

set_option maxHeartbeats 4000000 in
set_option maxRecDepth 100000 in
theorem refEmpty_any {n : Nat} {ts : List Nat} (A : Option Addr) (c : Nat) (hv : Valid n ts) (hlen : ts.length ≤ 1000) : ∀ (r p : Nat) (w : World), InF n p → rowOf p (rowsOf n) = r → SliceG w A ts →
    Calls Try.prog 45 #[.int .u64 n, .slice A ts.length c, .int .u64 p] w (NRet (.bool (goneB n ts p)) w) := by
  intro r
  induction r using Nat.strongRecOn with
  | ind r ih =>
  intro p w hin hr hs
  have hu := valid_u64 hv
  have hn := hv.1
  have hpu := inF_u64 hin
  have WY := Lib.hid (refWay_any n p w (by omega))
  have hws := way_short n p
  have hR := rows_le (n := n) (by omega)
  have IH := Lib.hid ih
  clear ih
  go_enter Try.func45, Try.ntmps45
  go_wp2_with fail
  refine WY.out.mono ?_
  rintro e w1 ⟨Aw, cw, rfl, hown, hb1⟩
  rw [ints_len]
  have HSW := Lib.hid (SliceAt.of_own hown (by rw [ints_len]))
  have HB1 := Lib.hid hb1
  have hs1 := SliceG.after hs hb1
  clear hown hb1 hs WY
  go_wp2_with fail
  go_loopw [8] (fun v wr => ∃ k : Nat, k ≤ (wayOf n p).length ∧ v = .int .i64 k ∧ (∀ a ∈ (wayOf n p).take k, a ∉ ts) ∧ wr = w1) (fun v _ => (wayOf n p).length - (intOf v).toNat)
  case atStart => exact ⟨0, by omega, rfl, by simp, rfl⟩
  case round =>
    obtain ⟨k, hk, rfl, hno, rfl⟩ := hrel
    by_cases hlt : k < (wayOf n p).length
    · obtain ⟨g, rfl, hg, hc⟩ := HSW.out k hlt
      have hx : (wayOf n p)[k]? = some (wayOf n p)[k] := List.getElem?_eq_getElem hlt
      rw [hx] at hc
      simp only [Option.map_some] at hc
      have k1 : (k : Int) < (wayOf n p).length := by omega
      have HX := Lib.hid hx
      clear hx
      generalize (wayOf n p)[k] = q at *
      have HH := Lib.hid (has_list ts A c q wr (by omega) hs1)
      by_cases hm : q ∈ ts
      · rw [decide_eq_true hm] at HH
        have E := Lib.hid (show goneB n ts p = true from by
          unfold goneB
          rw [Bool.or_eq_true, List.any_eq_true]
          exact .inl ⟨q, List.mem_of_getElem? HX.out, decide_eq_true hm⟩)
        clear hm hno
        go_wp2_with (go_at_call 55; refine HH.out.mono ?_; rintro e w' ⟨rfl, rfl⟩)
        go_ret
        exact ⟨by rw [E.out]; rfl, HB1.out⟩
      · rw [decide_eq_false hm] at HH
        have NO := Lib.hid (show ∀ a ∈ (wayOf n p).take (k + 1), a ∉ ts from by
          rw [List.take_add_one, HX.out]
          intro a h
          rcases List.mem_append.1 h with h | h
          · exact hno a h
          · simp at h
            rw [h]
            exact hm)
        clear hm hno
        go_wp2_with (go_at_call 55; refine HH.out.mono ?_; rintro e w' ⟨rfl, rfl⟩)
        exact ⟨⟨k + 1, by omega, by go_num, NO.out, trivial⟩, by simp [intOf]; omega⟩
    · obtain rfl : k = (wayOf n p).length := by omega
      rw [List.take_length] at hno
      have GC := Lib.hid (gone_cases hv hin hno)
      clear hno HSW
      go_wp2_with fail
      go_loopw [9, 10] (fun v9 v10 wr => ∃ i : Nat, i ≤ ts.length ∧ v10 = .int .i64 i ∧ v9 = .bool (onB n (ts.take i) p) ∧ Below w.heap.size w wr ∧ SliceG wr A ts) (fun _ v10 _ => ts.length - (intOf v10).toNat)
      case atStart => exact ⟨0, by omega, rfl, rfl, HB1.out, hs1⟩
      case round =>
        obtain ⟨i, hi, rfl, rfl, hbel, hsr⟩ := hrel
        by_cases hlt : i < ts.length
        · obtain ⟨g, rfl, hg, hc⟩ := hsr i hlt
          have hx : ts[i]? = some ts[i] := List.getElem?_eq_getElem hlt
          rw [hx] at hc
          simp only [Option.map_some] at hc
          have i1 : (i : Int) < ts.length := by omega
          have HX := Lib.hid hx
          have htu := hu _ (List.mem_of_getElem? hx)
          clear hx
          generalize ts[i] = t at *
          have NX := Lib.hid (onB_next (n := n) (p := p) HX.out)
          cases hb : onB n (ts.take i) p
          · rw [hb, Bool.false_or] at NX
            clear hb
            have WT := Lib.hid fun w => refWay_any n t w htu
            have HSR := Lib.hid hsr
            have HBE := Lib.hid hbel
            have hwt := way_short n t
            clear hsr hbel
            go_wp2_with (go_at_call 49; refine (WT.out _).mono ?_; rintro e w2 ⟨A2, c2, rfl, hown2, hb2⟩; rw [ints_len]; have HS2 := Lib.hid (SliceAt.of_own hown2 (by rw [ints_len])); have HB2 := Lib.hid hb2; clear hown2 hb2; have HH2 := Lib.hid (has_list (wayOf n t) A2 c2 p w2 (by omega) HS2.out.gen))
            go_wp2_with (go_at_call 55; refine HH2.out.mono ?_; rintro e w' ⟨rfl, rfl⟩)
            exact ⟨⟨i + 1, by omega, by go_num, by rw [NX.out], HBE.out.trans (HB2.out.mono HBE.out.size), SliceG.after HSR.out HB2.out⟩, by simp [intOf]; omega⟩
          · rw [hb, Bool.true_or] at NX
            clear hb
            have HSR := Lib.hid hsr
            have HBE := Lib.hid hbel
            clear hsr hbel
            go_wp2_with fail
            exact ⟨⟨i + 1, by omega, by go_num, by rw [NX.out], HBE.out, HSR.out⟩, by simp [intOf]; omega⟩
        · obtain rfl : i = ts.length := by omega
          rw [List.take_length]
          have hOn := onB_iff n ts p
          have HSR := Lib.hid hsr
          have HBE := Lib.hid hbel
          clear hsr hbel
          rcases GC.out with ⟨g1, g2⟩ | ⟨g1, g2, g3⟩
          · have e1 : onB n ts p = false := by
              rw [Bool.eq_false_iff]
              exact fun h => g1 (hOn.1 h)
            rw [e1]
            have E := Lib.hid g2
            clear g1 g2 hOn e1 GC
            go_wp2_with fail
            go_ret
            exact ⟨by rw [E.out]; rfl, HBE.out⟩
          · rw [hOn.2 g1]
            obtain ⟨k1, k2, k3, k4, k5, k6, k7⟩ := child_in hin g2
            have LF := Lib.hid fun w => refLeft_yes p (rowsOf n) w hR hin.2.1 k1
            have KR := Lib.hid fun w => refRows12 n w hn
            have il := Lib.hid fun w h => IH.out _ (by omega) (leftOf p (rowsOf n)) w k2 k4 h
            have ir := Lib.hid fun w h => IH.out _ (by omega) (leftOf p (rowsOf n) + 1) w k3 k5 h
            have E := Lib.hid g3
            have hlu := inF_u64 k2
            have hlu2 := inF_u64 k3
            clear g1 g2 g3 hOn GC IH k1 k2 k3 k4 k5 k6 k7
            generalize leftOf p (rowsOf n) = L at *
            generalize goneB n ts L = b1 at *
            generalize goneB n ts (L + 1) = b2 at *
            rewrite [show ((L + 1 : Nat) : Int) = (L : Int) + 1 from by omega] at ir hlu2
            go_wp2_with (first
              | (go_at_call 51; refine (KR.out _).mono ?_; rintro e w' ⟨rfl, d1, rfl⟩)
              | (go_at_call 52; refine (LF.out _).mono ?_; rintro e w' ⟨rfl, d2, rfl⟩))
            refine (il.out _ (by exact SliceG.after HSR.out (bel_drewN (Below.refl _ _) _))).mono ?_
            rintro e w3 ⟨rfl, hb3⟩
            have HB3 := Lib.hid ((bel_drewN HBE.out (d1 + d2)).trans (hb3.mono (by have := HBE.out.size; simpa using this)))
            have HS3 := Lib.hid (SliceG.after (SliceG.after HSR.out (bel_drewN (Below.refl _ _) (d1 + d2))) hb3)
            clear hb3
            cases b1
            · go_wp2_with fail
              go_ret
              exact ⟨by rw [E.out]; rfl, HB3.out⟩
            · go_wp2_with fail
              refine (ir.out _ HS3.out).mono ?_
              rintro e w4 ⟨rfl, hb4⟩
              have HB4 := Lib.hid (HB3.out.trans (hb4.mono HB3.out.size))
              clear hb4
              go_wp2_with fail
              go_ret
              exact ⟨by rw [E.out, Bool.true_and]; rfl, HB4.out⟩

theorem refGone_yes (n : Nat) (ts : List Nat) (A : Option Addr) (c p : Nat) (w : World) (hlen : ts.length ≤ 1000) (hs : SliceG w A ts) (hv : Valid n ts) (hin : InF n p) :
    Calls Try.prog 19 #[.int .u64 n, .slice A ts.length c, .int .u64 p] w (NRet (.tuple #[.bool (goneB n ts p), .int .i64 0]) w) := by
  have hu := valid_u64 hv
  have hpu := inF_u64 hin
  have CK := Lib.hid (refCheck_any n ts A c w hlen hu hs)
  have IS := Lib.hid fun w => refIs_any n p w (by omega)
  rw [decide_eq_true hin] at IS
  have EM := Lib.hid fun w h => refEmpty_any A c hv hlen _ p w hin rfl h
  go_enter Try.func19, Try.ntmps19
  go_wp2_with fail
  refine CK.out.mono ?_
  rintro e w1 ⟨v, hvv, rfl, hb1⟩
  obtain rfl : v = 0 := by
    rcases hvv with h | h
    · exact h.2
    · exact absurd hv h.1
  have HB1 := Lib.hid hb1
  have HS1 := Lib.hid (SliceG.after hs hb1)
  clear hvv hb1
  go_wp2_with (go_at_call 44; refine (IS.out _).mono ?_; rintro e w2 ⟨rfl, hb2⟩; have HB2 := Lib.hid (HB1.out.trans (hb2.mono HB1.out.size)); have HS2 := Lib.hid (SliceG.after HS1.out hb2); clear hb2)
  go_wp2_with fail
  refine (EM.out _ HS2.out).mono ?_
  rintro e w3 ⟨rfl, hb3⟩
  have HB3 := Lib.hid (HB2.out.trans (hb3.mono HB2.out.size))
  clear hb3
  go_wp2_with fail
  go_ret2
  exact ⟨rfl, HB3.out⟩
theorem refGone_no (n : Nat) (ts : List Nat) (A : Option Addr) (c p : Nat) (w : World) (hpu : (p : Int) ≤ 18446744073709551615) (hlen : ts.length ≤ 1000) (hu : ∀ t ∈ ts, (t : Int) ≤ 18446744073709551615) (hs : SliceG w A ts) (hno : ¬ (Valid n ts ∧ InF n p)) :
    Calls Try.prog 19 #[.int .u64 n, .slice A ts.length c, .int .u64 p] w (NRet (.tuple #[.bool false, .int .i64 2]) w) := by
  have CK := Lib.hid (refCheck_any n ts A c w hlen hu hs)
  have IS := Lib.hid fun w => refIs_any n p w hpu
  go_enter Try.func19, Try.ntmps19
  go_wp2_with fail
  refine CK.out.mono ?_
  rintro e w1 ⟨v, hvv, rfl, hb1⟩
  have HB1 := Lib.hid hb1
  clear hb1
  rcases hvv with ⟨hv, rfl⟩ | ⟨hv, rfl⟩
  · rw [decide_eq_false (fun h => hno ⟨hv, h⟩)] at IS
    go_wp2_with (go_at_call 44; refine (IS.out _).mono ?_; rintro e w2 ⟨rfl, hb2⟩; have HB2 := Lib.hid (HB1.out.trans (hb2.mono HB1.out.size)); clear hb2)
    go_ret2
    exact ⟨rfl, HB2.out⟩
  · go_wp2_with fail
    go_ret2
    exact ⟨rfl, HB1.out⟩
end Go.Proofs.Ytapdhmaeglafjaa
