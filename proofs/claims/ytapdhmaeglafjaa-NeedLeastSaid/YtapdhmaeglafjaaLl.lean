/- NeedLists. -/
import Derived.Test.YtapdhmaeglafjaaCu
import Derived.Test.YtapdhmaeglafjaaRn
import Derived.Test.YtapdhmaeglafjaaNi
import Derived.Test.YtapdhmaeglafjaaPa
namespace Go.Proofs.Ytapdhmaeglafjaa
open Go.RowKit Go.Shelf

theorem own_made (w : World) : OwnU (w.alloc (.cells #[] 22)) w.heap.size (.slice (some ⟨w.heap.size, 0, none⟩) 0 0) [] := ⟨rfl, .inr ⟨w.heap.size, 0, #[], rfl, Nat.le_refl _, World.alloc_heap_new _ _, Nat.le_refl _, Nat.zero_le _, rfl, rfl⟩⟩
theorem ru_gen {w : World} {A : Option Addr} {l : List Nat} (h : SliceG w A l) : Ru w A l := fun h0 => by
  obtain ⟨ad, e, h1, _⟩ := h 0 h0
  refine ⟨ad, e, h1, fun j x hx => ?_⟩
  obtain ⟨ad', e', _, h3⟩ := h j (List.getElem?_eq_some_iff.1 hx).1
  rw [e] at e'
  cases e'
  rw [h3, hx]
  rfl
theorem app_bel {w w2 : World} {o : Obj} {r : Option Nat} (hr : r = some w.heap.size) (hg : (w.alloc o).grownBy w2 r) : Below w.heap.size w w2 :=
  ((Below.refl w.heap.size w).alloc (Nat.le_refl _) o).grown hg (by simp) (fun r' e => by rw [hr] at e; cases e; exact Nat.le_refl _)
theorem RefOK.at {l : List Nat} {w w' : World} {e : Ending} (h : RefOK l w e w') : ∃ A c, e = .returned (.tuple #[.slice A l.length c, .int .i64 0]) ∧ SliceAt w' A l ∧ Below w.heap.size w w' := by
  obtain ⟨A, c, rfl, h1, h2⟩ := h
  exact ⟨A, c, rfl, h1.at', h2⟩
theorem nodup_len : ∀ (l m : List Nat), l.Nodup → (∀ x ∈ l, x ∈ m) → l.length ≤ m.length
  | [], _, _, _ => Nat.zero_le _
  | x :: l, m, h, hs => by
    rw [List.nodup_cons] at h
    have h1 := nodup_len l (m.erase x) h.2 (fun y hy => (List.mem_erase_of_ne (fun e => h.1 (by rw [← e]; exact hy))).2 (hs y (List.mem_cons_of_mem _ hy)))
    have h2 := List.length_erase_of_mem (hs x (List.mem_cons_self))
    have h3 := List.length_pos_of_mem (hs x (List.mem_cons_self))
    rw [List.length_cons]
    omega
theorem flat_short (n : Nat) : ∀ ts : List Nat, (ts.flatMap (wayOf n)).length ≤ 64 * ts.length
  | [] => by simp
  | t :: ts => by
    have h1 := flat_short n ts
    have h2 := way_short n t
    rw [List.flatMap_cons, List.length_append, List.length_cons]
    omega
theorem need_short {n : Nat} {ts l : List Nat} (h : IsNeed n ts l) : l.length ≤ 64 * ts.length := by
  have h1 := nodup_len l (needL n ts) (h.1.imp fun h => by omega) (fun x hx => (needed_mem n ts x).1 ((h.2 x).1 hx))
  have h2 : (needL n ts).length ≤ (ts.flatMap (wayOf n)).length := by
    unfold needL
    rw [List.length_map]
    exact List.length_filter_le _ _
  have h3 := flat_short n ts
  omega

set_option maxHeartbeats 4000000 in
set_option maxRecDepth 100000 in
theorem lists_walk (n : Nat) (A : Option Addr) (c : Nat) (l0 : List Nat) (w : World) (hnu : (n : Int) ≤ 18446744073709551615) (hl : l0.length ≤ c) (hc : c ≤ maxLen) (hs : SliceG w A l0) (hu : ∀ x ∈ l0, (x : Int) ≤ 18446744073709551615) :
    Calls Try.prog 6 #[.int .u64 n, .slice A l0.length c] w (NRet (.bool true) w) := by
  go_enter Try.func6, Try.ntmps6
  go_wp2_with (first
    | (go_at_call 17; refine (cut_any A c l0 _ hl hc hs).mono ?_; rintro e w' ⟨A1, c1, rfl, hs1, rfl⟩; have hl20 : (l0.take 20).length ≤ 20 := (by rw [List.length_take]; omega); have hut : ∀ x ∈ l0.take 20, (x : Int) ≤ 18446744073709551615 := (fun x hx => hu x (List.mem_of_mem_take hx)); have HS1 := Lib.hid hs1; have HU := Lib.hid hut; clear hs1 hs hu hut hl hc; generalize l0.take 20 = l at *)
    | (at_builtin; refine wpList_append_nums rfl _ _ rfl w.heap.size (.slice (some ⟨w.heap.size, 0, none⟩) 0 0) [] rfl (own_made w) _ _ _ l rfl rfl (by exact (ru_gen HS1.out).after ((Below.refl w.heap.size w).alloc (Nat.le_refl _) _)) (by simp; omega) (by simp) l.length (by simp) l rfl ?_; intro A2 c2 w2 h2 hg2; have H2 := Lib.hid (OwnU.at h2 rfl); have HB2 := Lib.hid (app_bel rfl hg2); clear h2 hg2))
  have HA := Lib.hid (SliceG.after HS1.out HB2.out)
  by_cases hv : Valid n l
  · refine (ways_yes n l A2 c2 w2 (by omega) H2.out.gen hv).mono ?_
    rintro e w3 ⟨lw, hw, hok⟩
    obtain ⟨A3, c3, rfl, hs3, hb3⟩ := hok.at
    have HW := Lib.hid hw; have HS3 := Lib.hid hs3; have HB3 := Lib.hid (HB2.out.trans (hb3.mono HB2.out.size)); have HL3 := Lib.hid (SliceG.after HA.out hb3); have HC3 := Lib.hid (H2.out.after hb3)
    clear hok hs3 hb3 hw
    go_wp2_with fail
    refine (refWays_yes n l A1 c1 w3 (by omega) HL3.out hv).mono ?_
    rintro e w4 ⟨lv, hw, hlv, hok⟩
    obtain rfl := isWays_one HW.out hw
    obtain ⟨A4, c4, rfl, hs4, hb4⟩ := hok.at
    have HS4 := Lib.hid hs4; have HB4 := Lib.hid (HB3.out.trans (hb4.mono HB3.out.size)); have HL4 := Lib.hid (SliceG.after HL3.out hb4); have HC4 := Lib.hid (HC3.out.after hb4); have HX4 := Lib.hid (HS3.out.after hb4)
    clear hok hs4 hb4 hw
    go_wp2_with fail
    refine (need_yes n l A2 c2 w4 (by omega) HC4.out.gen hv).mono ?_
    rintro e w5 ⟨ln, hn, hok⟩
    obtain ⟨A5, c5, rfl, hs5, hb5⟩ := hok.at
    have HN := Lib.hid hn; have HS5 := Lib.hid hs5; have HB5 := Lib.hid (HB4.out.trans (hb5.mono HB4.out.size)); have HL5 := Lib.hid (SliceG.after HL4.out hb5); have HC5 := Lib.hid (HC4.out.after hb5); have HX5 := Lib.hid (HX4.out.after hb5); have HY5 := Lib.hid (HS4.out.after hb5)
    clear hok hs5 hb5 hn
    go_wp2_with fail
    refine (refNeed_yes n l A1 c1 w5 (by omega) HL5.out hv).mono ?_
    rintro e w6 ⟨lm, hn, hok⟩
    obtain rfl := isNeed_one HN.out hn
    obtain ⟨A6, c6, rfl, hs6, hb6⟩ := hok.at
    have HS6 := Lib.hid hs6; have HB6 := Lib.hid (HB5.out.trans (hb6.mono HB5.out.size)); have HL6 := Lib.hid (SliceG.after HL5.out hb6); have HC6 := Lib.hid (HC5.out.after hb6); have HX6 := Lib.hid (HX5.out.after hb6); have HY6 := Lib.hid (HY5.out.after hb6); have HN6 := Lib.hid (HS5.out.after hb6)
    clear hok hs6 hb6 hn
    have hll := need_short HN.out
    have CK := Lib.hid fun w h => check_any n l A2 c2 w hnu (by omega) HU.out h 0 (.inl ⟨hv, rfl⟩)
    have RK := Lib.hid fun w h => refCheck_any n l A1 c1 w (by omega) HU.out h
    have SM1 := Lib.hid fun w h h' => same_list lw lw A3 A4 c3 c4 w (by omega) (by omega) h h'
    have SM2 := Lib.hid fun w h h' => same_list ln ln A5 A6 c5 c6 w (by omega) (by omega) h h'
    have SM3 := Lib.hid fun w h h' => same_list l l A2 A1 c2 c1 w (by omega) (by omega) h h'
    simp only [decide_true] at SM1 SM2 SM3
    go_wp2_with fail
    refine (CK.out _ HC6.out.gen).mono ?_
    rintro e w7 ⟨rfl, hb7⟩
    have HB7 := Lib.hid (HB6.out.trans (hb7.mono HB6.out.size)); have HL7 := Lib.hid (SliceG.after HL6.out hb7)
    go_wp2_with fail
    refine (RK.out _ HL7.out).mono ?_
    rintro e w8 ⟨v, hvv, rfl, hb8⟩
    obtain rfl : v = 0 := by
      rcases hvv with h | h
      · exact h.2
      · exact absurd hv h.1
    have HB8 := Lib.hid (HB7.out.trans (hb8.mono HB7.out.size)); have HL8 := Lib.hid (SliceG.after HL7.out hb8); have HC8 := Lib.hid ((HC6.out.after hb7).after hb8)
    have HX8 := Lib.hid ((HX6.out.after hb7).after hb8); have HY8 := Lib.hid ((HY6.out.after hb7).after hb8); have HN8 := Lib.hid ((HN6.out.after hb7).after hb8); have HM8 := Lib.hid ((HS6.out.after hb7).after hb8)
    clear hb7 hb8 hvv
    go_wp2_with fail
    refine (SM1.out _ HX8.out.gen HY8.out.gen).mono ?_
    rintro e _ ⟨rfl, d1, rfl⟩
    have hd1 := bel_drewN (Below.refl w8.heap.size w8) d1
    go_wp2_with fail
    refine (SM2.out _ (HN8.out.after hd1).gen (HM8.out.after hd1).gen).mono ?_
    rintro e _ ⟨rfl, d2, rfl⟩
    have hd2 := bel_drewN hd1 d2
    simp only [World.drewN_drewN] at *
    go_wp2_with fail
    refine (SM3.out _ (HC8.out.after hd2).gen (SliceG.after HL8.out hd2)).mono ?_
    rintro e _ ⟨rfl, d3, rfl⟩
    have hd3 := bel_drewN hd2 d3
    simp only [World.drewN_drewN] at *
    have HD3 := Lib.hid (HB8.out.trans (hd3.mono HB8.out.size))
    clear hd1 hd2 hd3
    go_wp2_with fail
    refine (works_any _).mono ?_
    rintro e w9 ⟨rfl, hb9⟩
    have HB9 := Lib.hid (HD3.out.trans (hb9.mono HD3.out.size))
    clear hb9
    go_wp2_with fail
    go_ret
    exact ⟨rfl, HB9.out⟩
  · refine (ways_no n l A2 c2 w2 hnu (by omega) HU.out H2.out.gen hv).mono ?_
    rintro e w3 ⟨rfl, hb3⟩
    have HB3 := Lib.hid (HB2.out.trans (hb3.mono HB2.out.size)); have HL3 := Lib.hid (SliceG.after HA.out hb3); have HC3 := Lib.hid (H2.out.after hb3)
    clear hb3
    go_wp2_with fail
    refine (refWays_no n l A1 c1 w3 (by omega) HU.out HL3.out hv).mono ?_
    rintro e w4 ⟨rfl, hb4⟩
    have HB4 := Lib.hid (HB3.out.trans (hb4.mono HB3.out.size)); have HL4 := Lib.hid (SliceG.after HL3.out hb4); have HC4 := Lib.hid (HC3.out.after hb4)
    clear hb4
    go_wp2_with fail
    refine (need_no n l A2 c2 w4 hnu (by omega) HU.out HC4.out.gen hv).mono ?_
    rintro e w5 ⟨rfl, hb5⟩
    have HB5 := Lib.hid (HB4.out.trans (hb5.mono HB4.out.size)); have HL5 := Lib.hid (SliceG.after HL4.out hb5); have HC5 := Lib.hid (HC4.out.after hb5)
    clear hb5
    go_wp2_with fail
    refine (refNeed_no n l A1 c1 w5 (by omega) HU.out HL5.out hv).mono ?_
    rintro e w6 ⟨rfl, hb6⟩
    have HB6 := Lib.hid (HB5.out.trans (hb6.mono HB5.out.size)); have HL6 := Lib.hid (SliceG.after HL5.out hb6); have HC6 := Lib.hid (HC5.out.after hb6)
    clear hb6
    have CK := Lib.hid fun w h => check_any n l A2 c2 w hnu (by omega) HU.out h 2 (.inr ⟨hv, rfl⟩)
    have RK := Lib.hid fun w h => refCheck_any n l A1 c1 w (by omega) HU.out h
    have SM1 := Lib.hid fun w => same_list [] [] none none 0 0 w (by simp) (by simp) (fun k hk => by simp at hk) (fun k hk => by simp at hk)
    have SM3 := Lib.hid fun w h h' => same_list l l A2 A1 c2 c1 w (by omega) (by omega) h h'
    simp only [decide_true] at SM1 SM3
    go_wp2_with fail
    refine (CK.out _ HC6.out.gen).mono ?_
    rintro e w7 ⟨rfl, hb7⟩
    have HB7 := Lib.hid (HB6.out.trans (hb7.mono HB6.out.size)); have HL7 := Lib.hid (SliceG.after HL6.out hb7)
    go_wp2_with fail
    refine (RK.out _ HL7.out).mono ?_
    rintro e w8 ⟨v, hvv, rfl, hb8⟩
    obtain rfl : v = 2 := by
      rcases hvv with h | h
      · exact absurd h.1 hv
      · exact h.2
    have HB8 := Lib.hid (HB7.out.trans (hb8.mono HB7.out.size)); have HL8 := Lib.hid (SliceG.after HL7.out hb8); have HC8 := Lib.hid ((HC6.out.after hb7).after hb8)
    clear hb7 hb8 hvv
    go_wp2_with fail
    refine (SM1.out _).mono ?_
    rintro e _ ⟨rfl, d1, rfl⟩
    have hd1 := bel_drewN (Below.refl w8.heap.size w8) d1
    go_wp2_with fail
    refine (SM1.out _).mono ?_
    rintro e _ ⟨rfl, d2, rfl⟩
    have hd2 := bel_drewN hd1 d2
    simp only [World.drewN_drewN] at *
    go_wp2_with fail
    refine (SM3.out _ (HC8.out.after hd2).gen (SliceG.after HL8.out hd2)).mono ?_
    rintro e _ ⟨rfl, d3, rfl⟩
    have hd3 := bel_drewN hd2 d3
    simp only [World.drewN_drewN] at *
    have HD3 := Lib.hid (HB8.out.trans (hd3.mono HB8.out.size))
    clear hd1 hd2 hd3
    go_wp2_with fail
    refine (works_any _).mono ?_
    rintro e w9 ⟨rfl, hb9⟩
    have HB9 := Lib.hid (HD3.out.trans (hb9.mono HD3.out.size))
    clear hb9
    go_wp2_with fail
    go_ret
    exact ⟨rfl, HB9.out⟩

set_option maxRecDepth 100000 in
theorem law_NeedLists {H : Type} {enc : TypeId × Value → H} (W : World) (base : Nat) (v0 v1 : Value) (d0 d1 : DataW H) (p0 p1 : List MemPlace)
    (h0 : DataW.Trod enc Try.prog W 0 (fun _ => true) true 22 v0 d0 p0) (h1 : DataW.Trod enc Try.prog W 0 (fun _ => true) true 23 v1 d1 p1)
    (o0 : Value.okWide Try.prog W .any base 22 v0) (o1 : Value.okWide Try.prog W .any base 23 v1) :
    Calls Try.prog 6 #[v0, v1] W fun e w' => e = .returned (.bool true) ∧ Below W.heap.size W w' := by
  obtain ⟨a, rfl, wa⟩ := in_int Try.underlying22 h0 o0
  obtain ⟨n, rfl, hn⟩ := u64_nat wa
  obtain ⟨A, c, l, rfl, hs, hl, hc, hu⟩ := in_nums h1 o1
  exact lists_walk n A c l W hn hl hc hs hu
end Go.Proofs.Ytapdhmaeglafjaa
