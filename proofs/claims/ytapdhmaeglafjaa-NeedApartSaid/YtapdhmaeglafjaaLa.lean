/- NeedApart. -/
import Derived.Test.YtapdhmaeglafjaaCu
import Derived.Test.YtapdhmaeglafjaaPa
import Derived.Test.YtapdhmaeglafjaaCk
import Derived.Test.YtapdhmaeglafjaaNi
namespace Go.Proofs.Ytapdhmaeglafjaa
open Go.RowKit Go.Shelf

/-- How Moved answers: the place; gone; it may not be. -/
def MovedSays (n : Nat) (ts : List Nat) (A : Option Addr) (c x : Nat) (q e : Int) (s : Bool) : Prop := ∀ w, SliceG w A ts → Calls Try.prog 20 #[.int .u64 n, .slice A ts.length c, .int .u64 x] w (NRet (.tuple #[.int .u64 q, .bool s, .int .i64 e]) w)
theorem moved_cases (n : Nat) (ts : List Nat) (A : Option Addr) (c x : Nat) (hnu : (n : Int) ≤ 18446744073709551615) (hxu : (x : Int) ≤ 18446744073709551615) (hlen : ts.length ≤ 1000) (hu : ∀ t ∈ ts, (t : Int) ≤ 18446744073709551615) :
    (Valid n ts ∧ InF n x ∧ goneB n ts x = false ∧ MovedSays n ts A c x (movedF n ts x : Nat) 0 true) ∨ MovedSays n ts A c x 0 0 false ∨ MovedSays n ts A c x 0 2 false := by
  by_cases h : Valid n ts ∧ InF n x
  · obtain ⟨hv, hin⟩ := h
    cases hg : goneB n ts x
    · exact .inl ⟨hv, hin, rfl, fun w h => Moved_yes n ts A c x w hlen h hv hin hg⟩
    · exact .inr (.inl fun w h => Moved_gone n ts A c x w hlen h hv hin hg)
  · exact .inr (.inr fun w hs => Moved_no n ts A c x w hnu hxu hlen hu hs h)

set_option maxHeartbeats 2000000 in
set_option maxRecDepth 100000 in
theorem apart_walk (n : Nat) (A : Option Addr) (c : Nat) (l0 : List Nat) (a b : Nat) (w : World) (hnu : (n : Int) ≤ 18446744073709551615) (hl : l0.length ≤ c) (hc : c ≤ maxLen) (hs : SliceG w A l0) (hu : ∀ x ∈ l0, (x : Int) ≤ 18446744073709551615)
    (hau : (a : Int) ≤ 18446744073709551615) (hbu : (b : Int) ≤ 18446744073709551615) :
    Calls Try.prog 5 #[.int .u64 n, .slice A l0.length c, .agg #[.int .u64 a, .int .u64 b]] w (NRet (.bool true) w) := by
  go_enter Try.func5, Try.ntmps5
  go_wp2_with (go_at_call 17; refine (cut_any A c l0 _ hl hc (SliceG.after hs ((Below.refl _ w).alloc (Nat.le_refl _) _))).mono ?_; rintro e w' ⟨A1, c1, rfl, hs1, rfl⟩; have hl20 : (l0.take 20).length ≤ 20 := (by rw [List.length_take]; omega); have hut : ∀ x ∈ l0.take 20, (x : Int) ≤ 18446744073709551615 := (fun x hx => hu x (List.mem_of_mem_take hx)); have HS1 := Lib.hid hs1; have HU := Lib.hid hut; have HK := Lib.hid (IsBlk.new w 45 #[.int .u64 a, .int .u64 b]); clear hs1 hs hu hut hl hc; generalize l0.take 20 = l at *; have k0 := HK.out.cell 0; have k1 := HK.out.cell 1; simp at k0 k1)
  have HB1 := Lib.hid ((Below.refl _ w).alloc (Nat.le_refl _) (.cells #[.int .u64 a, .int .u64 b] 45))
  have CA := moved_cases n l A1 c1 a hnu hau (by omega) HU.out
  have CB := moved_cases n l A1 c1 b hnu hbu (by omega) HU.out
  clear k1
  rcases CA with ⟨hv, ia, ga, MA⟩ | CA
  · rcases CB with ⟨_, ib, gb, MB⟩ | CB
    · have MA := Lib.hid MA; have MB := Lib.hid MB
      have hn := hv.1
      have hR := rows_le (n := n) (by omega)
      obtain ⟨pi, pt⟩ := moved_in l ia
      obtain ⟨qi, qt⟩ := moved_in l ib
      have TP := Lib.hid fun w => tree_yes n _ w pi
      have TA := Lib.hid fun w => tree_yes n a w ia
      rw [pt] at TP
      have RW := Lib.hid fun w => rows_yes n w (by omega)
      have WAB := Lib.hid fun w => within_ok a b (rowsOf n) w hR ia.2.1 ib.2.1
      have WBA := Lib.hid fun w => within_ok b a (rowsOf n) w hR ib.2.1 ia.2.1
      have WPQ := Lib.hid fun w => within_ok (movedF n l a) (movedF n l b) (rowsOf n) w hR pi.2.1 qi.2.1
      have WQP := Lib.hid fun w => within_ok (movedF n l b) (movedF n l a) (rowsOf n) w hR qi.2.1 pi.2.1
      have LAB := Lib.hid (below_way ia ib)
      have LBA := Lib.hid (below_way ib ia)
      have LPQ := Lib.hid (below_way pi qi)
      have LQP := Lib.hid (below_way qi pi)
      have mb1 := Lib.hid fun h => moved_below (b := b) l ia h
      have mb2 := Lib.hid fun h => moved_below (b := a) l ib h
      have ap1 := Lib.hid (moved_apart ia ib ga gb)
      have ap2 := Lib.hid (moved_apart ib ia gb ga)
      have eq1 := Lib.hid (show a = b → movedF n l a = movedF n l b from fun e => by rw [e])
      have sp := Lib.hid (way_self pi)
      have sq := Lib.hid (way_self qi)
      clear pi qi pt qt ia ib ga gb hv
      generalize movedF n l a = p at *
      generalize movedF n l b = q at *
      generalize treeOf n a = t at *
      go_wp2_with fail
      refine (MA.out _ HS1.out).mono ?_
      rintro e w2 ⟨rfl, hb⟩
      have HB2 := Lib.hid (HB1.out.trans (hb.mono HB1.out.size)); have HL2 := Lib.hid (SliceG.after HS1.out hb); have HK2 := Lib.hid (HK.out.after hb)
      clear hb k0
      have k1 := HK2.out.cell 1
      simp at k1
      have klt := HK2.out.lt
      go_wp2_with fail
      refine (MB.out _ HL2.out).mono ?_
      rintro e w3 ⟨rfl, hb⟩
      have HB3 := Lib.hid (HB2.out.trans (hb.mono HB2.out.size)); have HK3 := Lib.hid (HK2.out.after hb)
      clear hb k1 klt
      have k0 := HK3.out.cell 0
      simp at k0
      have klt := HK3.out.lt
      go_wp2_with (go_at_call 15; refine (RW.out _).mono ?_; rintro e w' ⟨rfl, rfl⟩)
      refine (TP.out _).mono ?_
      rintro e w4 ⟨rfl, hb⟩
      have HB4 := Lib.hid (HB3.out.trans (hb.mono HB3.out.size)); have HK4 := Lib.hid (HK3.out.after hb)
      clear hb k0 klt
      have k0 := HK4.out.cell 0
      simp at k0
      have klt := HK4.out.lt
      go_wp2_with fail
      refine (TA.out _).mono ?_
      rintro e w5 ⟨rfl, hb⟩
      have HB5 := Lib.hid (HB4.out.trans (hb.mono HB4.out.size)); have HK5 := Lib.hid (HK4.out.after hb)
      clear hb k0 klt
      have k0 := HK5.out.cell 0
      have k1 := HK5.out.cell 1
      simp at k0 k1
      have klt := HK5.out.lt
      by_cases hab : a = b
      · have e1 : ((a : Int) == b) = true := by rw [beq_iff_eq]; omega
        have e2 : ((p : Int) == q) = true := by have := eq1.out hab; rw [beq_iff_eq]; omega
        clear hab
        go_wp2_with fail
        refine (works_any _).mono ?_
        rintro e w6 ⟨rfl, hb⟩
        have HB6 := Lib.hid (HB5.out.trans (hb.mono HB5.out.size))
        clear hb
        go_wp2_with fail
        go_ret
        exact ⟨rfl, HB6.out⟩
      · have e1 : ((a : Int) == b) = false := by rw [beq_eq_false_iff_ne]; omega
        by_cases h1 : Below_ a b (rowsOf n)
        · rw [decide_eq_true h1] at WAB
          have m1 := mb1.out ((LAB.out).1 h1).1
          by_cases hpq : p = q
          · have e2 : ((p : Int) == q) = true := by rw [beq_iff_eq]; omega
            clear hpq m1 h1
            go_wp2_with fail
            refine (WAB.out _).mono ?_
            rintro e _ ⟨rfl, d1, rfl⟩
            have HB6 := Lib.hid (bel_drewN HB5.out d1)
            go_wp2_with fail
            refine (works_any _).mono ?_
            rintro e w9 ⟨rfl, hb⟩
            have HB9 := Lib.hid (HB6.out.trans (hb.mono HB6.out.size))
            clear hb
            go_wp2_with fail
            go_ret
            exact ⟨rfl, HB9.out⟩
          · have e2 : ((p : Int) == q) = false := by rw [beq_eq_false_iff_ne]; omega
            rw [decide_eq_true (LPQ.out.2 ⟨m1, fun e => hpq e.symm⟩)] at WPQ
            clear hpq m1 h1
            go_wp2_with fail
            refine (WAB.out _).mono ?_
            rintro e _ ⟨rfl, d1, rfl⟩
            go_wp2_with fail
            refine (WPQ.out _).mono ?_
            rintro e _ ⟨rfl, d2, rfl⟩
            simp only [World.drewN_drewN]
            have HB6 := Lib.hid (bel_drewN HB5.out (d1 + d2))
            go_wp2_with fail
            refine (works_any _).mono ?_
            rintro e w9 ⟨rfl, hb⟩
            have HB9 := Lib.hid (HB6.out.trans (hb.mono HB6.out.size))
            clear hb
            go_wp2_with fail
            go_ret
            exact ⟨rfl, HB9.out⟩
        · rw [decide_eq_false h1] at WAB
          by_cases h2 : Below_ b a (rowsOf n)
          · rw [decide_eq_true h2] at WBA
            have m1 := mb2.out ((LBA.out).1 h2).1
            by_cases hpq : p = q
            · have e2 : ((p : Int) == q) = true := by rw [beq_iff_eq]; omega
              clear hpq m1 h1 h2
              go_wp2_with fail
              refine (WAB.out _).mono ?_
              rintro e _ ⟨rfl, d1, rfl⟩
              have k2 := (HK5.out.drewN d1).cell 0
              have k3 := (HK5.out.drewN d1).cell 1
              simp at k2 k3
              go_wp2_with fail
              refine (WBA.out _).mono ?_
              rintro e _ ⟨rfl, d2, rfl⟩
              simp only [World.drewN_drewN]
              have HB6 := Lib.hid (bel_drewN HB5.out (d1 + d2))
              go_wp2_with fail
              refine (works_any _).mono ?_
              rintro e w9 ⟨rfl, hb⟩
              have HB9 := Lib.hid (HB6.out.trans (hb.mono HB6.out.size))
              clear hb
              go_wp2_with fail
              go_ret
              exact ⟨rfl, HB9.out⟩
            · have e2 : ((p : Int) == q) = false := by rw [beq_eq_false_iff_ne]; omega
              rw [decide_eq_true (LQP.out.2 ⟨m1, hpq⟩)] at WQP
              clear hpq m1 h1 h2
              go_wp2_with fail
              refine (WAB.out _).mono ?_
              rintro e _ ⟨rfl, d1, rfl⟩
              go_wp2_with fail
              refine (WBA.out _).mono ?_
              rintro e _ ⟨rfl, d2, rfl⟩
              go_wp2_with fail
              refine (WQP.out _).mono ?_
              rintro e _ ⟨rfl, d3, rfl⟩
              simp only [World.drewN_drewN]
              have HB6 := Lib.hid (bel_drewN HB5.out (d1 + d2 + d3))
              go_wp2_with fail
              refine (works_any _).mono ?_
              rintro e w9 ⟨rfl, hb⟩
              have HB9 := Lib.hid (HB6.out.trans (hb.mono HB6.out.size))
              clear hb
              go_wp2_with fail
              go_ret
              exact ⟨rfl, HB9.out⟩
          · rw [decide_eq_false h2] at WBA
            have n1 := ap1.out (fun h => h1 (LAB.out.2 ⟨h, fun e => hab e.symm⟩)) (fun h => h2 (LBA.out.2 ⟨h, hab⟩))
            have n2 := ap2.out (fun h => h2 (LBA.out.2 ⟨h, hab⟩)) (fun h => h1 (LAB.out.2 ⟨h, fun e => hab e.symm⟩))
            have hpq : p ≠ q := fun e => n1 (by rw [← e]; exact sp.out)
            have e2 : ((p : Int) != q) = true := by rw [bne_iff_ne]; omega
            rw [decide_eq_false (fun h => n1 (LPQ.out.1 h).1)] at WPQ
            rw [decide_eq_false (fun h => n2 (LQP.out.1 h).1)] at WQP
            clear hpq n1 n2 h1 h2
            go_wp2_with fail
            refine (WAB.out _).mono ?_
            rintro e _ ⟨rfl, d1, rfl⟩
            go_wp2_with fail
            refine (WBA.out _).mono ?_
            rintro e _ ⟨rfl, d2, rfl⟩
            go_wp2_with fail
            refine (WPQ.out _).mono ?_
            rintro e _ ⟨rfl, d3, rfl⟩
            go_wp2_with fail
            refine (WQP.out _).mono ?_
            rintro e _ ⟨rfl, d4, rfl⟩
            simp only [World.drewN_drewN]
            have HB6 := Lib.hid (bel_drewN HB5.out (d1 + d2 + d3 + d4))
            go_wp2_with fail
            refine (works_any _).mono ?_
            rintro e w9 ⟨rfl, hb⟩
            have HB9 := Lib.hid (HB6.out.trans (hb.mono HB6.out.size))
            clear hb
            go_wp2_with fail
            go_ret
            exact ⟨rfl, HB9.out⟩
    · rcases CB with MB | MB <;> (
      have MA := Lib.hid MA; have MB := Lib.hid MB
      go_wp2_with fail
      refine (MA.out _ HS1.out).mono ?_
      rintro e w2 ⟨rfl, hb⟩
      have HB2 := Lib.hid (HB1.out.trans (hb.mono HB1.out.size)); have HL2 := Lib.hid (SliceG.after HS1.out hb); have HK2 := Lib.hid (HK.out.after hb)
      clear hb k0
      have k1 := HK2.out.cell 1
      simp at k1
      have klt := HK2.out.lt
      go_wp2_with fail
      refine (MB.out _ HL2.out).mono ?_
      rintro e w3 ⟨rfl, hb⟩
      have HB3 := Lib.hid (HB2.out.trans (hb.mono HB2.out.size))
      clear hb k1 klt
      go_wp2_with fail
      refine (works_any _).mono ?_
      rintro e w9 ⟨rfl, hb⟩
      have HB9 := Lib.hid (HB3.out.trans (hb.mono HB3.out.size))
      clear hb
      go_wp2_with fail
      go_ret
      exact ⟨rfl, HB9.out⟩)
  · rcases CA with MA | MA <;> rcases CB with ⟨_, _, _, MB⟩ | MB | MB <;> (
      have MA := Lib.hid MA; have MB := Lib.hid MB
      go_wp2_with fail
      refine (MA.out _ HS1.out).mono ?_
      rintro e w2 ⟨rfl, hb⟩
      have HB2 := Lib.hid (HB1.out.trans (hb.mono HB1.out.size)); have HL2 := Lib.hid (SliceG.after HS1.out hb); have HK2 := Lib.hid (HK.out.after hb)
      clear hb k0
      have k1 := HK2.out.cell 1
      simp at k1
      have klt := HK2.out.lt
      go_wp2_with fail
      refine (MB.out _ HL2.out).mono ?_
      rintro e w3 ⟨rfl, hb⟩
      have HB3 := Lib.hid (HB2.out.trans (hb.mono HB2.out.size))
      clear hb k1 klt
      go_wp2_with fail
      refine (works_any _).mono ?_
      rintro e w9 ⟨rfl, hb⟩
      have HB9 := Lib.hid (HB3.out.trans (hb.mono HB3.out.size))
      clear hb
      go_wp2_with fail
      go_ret
      exact ⟨rfl, HB9.out⟩)

set_option maxRecDepth 100000 in
theorem law_NeedApart {H : Type} {enc : TypeId × Value → H} (W : World) (base : Nat) (v0 v1 v2 : Value) (d0 d1 d2 : DataW H) (p0 p1 p2 : List MemPlace)
    (h0 : DataW.Trod enc Try.prog W 0 (fun _ => true) true 22 v0 d0 p0) (h1 : DataW.Trod enc Try.prog W 0 (fun _ => true) true 23 v1 d1 p1) (h2 : DataW.Trod enc Try.prog W 0 (fun _ => true) true 45 v2 d2 p2)
    (o0 : Value.okWide Try.prog W .any base 22 v0) (o1 : Value.okWide Try.prog W .any base 23 v1) (o2 : Value.okWide Try.prog W .any base 45 v2) :
    Calls Try.prog 5 #[v0, v1, v2] W fun e w' => e = .returned (.bool true) ∧ Below W.heap.size W w' := by
  obtain ⟨a, rfl, wa⟩ := in_int Try.underlying22 h0 o0
  obtain ⟨n, rfl, hn⟩ := u64_nat wa
  obtain ⟨A, c, l, rfl, hs, hl, hc, hu⟩ := in_nums h1 o1
  obtain ⟨zs, hz, rfl, hw⟩ := in_array Try.underlying45 Try.underlying22 (by kernel_rfl) (by kernel_rfl) h2 o2
  obtain ⟨x, y, rfl⟩ : ∃ x y, zs = [x, y] := by
    match zs, hz with
    | [x, y], _ => exact ⟨x, y, rfl⟩
  obtain ⟨x, rfl, hx⟩ := u64_nat (hw x (by simp))
  obtain ⟨y, rfl, hy⟩ := u64_nat (hw y (by simp))
  exact apart_walk n A c l x y W hn hl hc hs hu hx hy
end Go.Proofs.Ytapdhmaeglafjaa
