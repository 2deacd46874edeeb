/- The document's Ways. -/
import Derived.Test.YtnokhajjcjfbpaaCk
import Derived.Test.YtnokhajjcjfbpaaRz
import Derived.Test.YtnokhajjcjfbpaaMc
namespace Go.Proofs.Ytnokhajjcjfbpaa
open Go.RowKit Go.Shelf

/-- A list and no error, as the document gives them. -/
def RefOK (l : List Nat) (w : World) (e : Ending) (w' : World) : Prop := ∃ A c, e = .returned (.tuple #[.slice A l.length c, .int .i64 0]) ∧ ListV w' A c l ∧ Below w.heap.size w w'

set_option maxHeartbeats 4000000 in
theorem refWays_yes (n : Nat) (ts : List Nat) (A : Option Addr) (c : Nat) (w : World) (hlen : ts.length ≤ 1000) (hs : SliceG w A ts) (hv : Valid n ts) :
    Calls Try.prog 29 #[.int .u64 n, .slice A ts.length c] w fun e w' => ∃ l, IsWays n ts l ∧ l.length ≤ 64 * ts.length ∧ RefOK l w e w' := by
  have hu := valid_u64 hv
  have CK := Lib.hid fun w hs => refCheck_any n ts A c w hlen hu hs
  go_enter Try.func29, Try.ntmps29
  go_wp2_with fail
  refine (CK.out _ hs).mono ?_
  rintro e w1 ⟨v, hvv, rfl, hb1⟩
  obtain rfl : v = 0 := by
    rcases hvv with h | h
    · exact h.2
    · exact absurd hv h.1
  have HB1 := Lib.hid hb1
  clear hvv hb1
  go_wp2_with fail
  go_loopw [7, 8, 9, 10] (fun v7 v8 _ _ wr => ∃ (i : Nat) (l : List Nat) (Al : Option Addr) (cl : Nat), i ≤ ts.length ∧ v8 = .int .i64 i ∧ v7 = .slice Al l.length cl ∧ l.Pairwise (fun a b => a < b) ∧ (∀ x, x ∈ l ↔ OnWay n (ts.take i) x) ∧ l.length ≤ 64 * i ∧ ListV wr Al cl l ∧ Below w.heap.size w wr) (fun _ v8 _ _ _ => ts.length - (intOf v8).toNat)
  case atStart => exact ⟨0, [], none, 0, by omega, rfl, rfl, List.Pairwise.nil, fun x => by simp [OnWay], by simp, ⟨fun k hk => by simp at hk, by simp, fun _ => rfl, fun ad e => (by cases e)⟩, HB1.out⟩
  case round =>
    obtain ⟨i, l, Al, cl, hi, rfl, rfl, hup, hmem, hll, hL, hbel⟩ := hrel
    by_cases hlt : i < ts.length
    · obtain ⟨g, rfl, hg, _⟩ := hs i hlt
      obtain ⟨_, e, hgr, hc⟩ := (SliceG.below hs hbel (fun ad e => by cases e; exact hg)) i hlt
      cases e
      have hx : ts[i]? = some ts[i] := List.getElem?_eq_getElem hlt
      rw [hx] at hc
      simp only [Option.map_some] at hc
      have htu := hu _ (List.mem_of_getElem? hx)
      have HX := Lib.hid hx
      clear hx
      generalize ts[i] = t at *
      have i1 : (i : Int) < ts.length := by omega
      have WY := Lib.hid fun w => refWay_any n t w htu
      have HL := Lib.hid hL; have HB := Lib.hid hbel; have HM := Lib.hid hmem; have HU := Lib.hid hup
      have hws := way_short n t
      have hty : ∀ y ∈ wayOf n t, (y : Int) ≤ 18446744073709551615 := fun y hy => by
        have := inF_u64 (in_way (hv.2.1 t (List.mem_of_getElem? HX.out)) hy)
        omega
      have HTY := Lib.hid hty
      clear hL hbel hmem hup hty
      go_wp2_with (go_at_call 43; refine (WY.out _).mono ?_; rintro e w2 ⟨Aw, cw, rfl, hown, hb2⟩; rw [ints_len]; have HO := Lib.hid (SliceAt.of_own hown (by rw [ints_len])); have HB2 := Lib.hid hb2; clear hown hb2)
      have hL2 := HL.out.after HB2.out
      have hb02 := HB.out.trans (HB2.out.mono HB.out.size)
      have hsw := HO.out
      have hszw : w.heap.size ≤ w2.heap.size := hb02.size
      clear hc
      go_loopw [7, 10] (fun v7 v10 wr => ∃ (k : Nat) (l2 : List Nat) (Al : Option Addr) (cl : Nat), k ≤ (wayOf n t).length ∧ v10 = .int .i64 k ∧ v7 = .slice Al l2.length cl ∧ l2.Pairwise (fun a b => a < b) ∧ (∀ x, x ∈ l2 ↔ OnWay n (ts.take i) x ∨ x ∈ (wayOf n t).take k) ∧ l2.length ≤ 64 * i + k ∧ ListV wr Al cl l2 ∧ Below w2.heap.size w2 wr) (fun _ v10 _ => (wayOf n t).length - (intOf v10).toNat)
      case atStart => exact ⟨0, l, Al, cl, by omega, rfl, rfl, HU.out, fun x => by rw [HM.out x]; simp, by omega, hL2, Below.refl _ _⟩
      case round =>
        obtain ⟨k, l2, Al, cl, hk, rfl, rfl, hup2, hmem2, hll2, hLL, hbel2⟩ := hrel
        by_cases hkl : k < (wayOf n t).length
        · obtain ⟨gw, e, hgw, hcw⟩ := (hsw.after hbel2) k hkl
          subst e
          have hy : (wayOf n t)[k]? = some (wayOf n t)[k] := List.getElem?_eq_getElem hkl
          rw [hy] at hcw
          simp only [Option.map_some] at hcw
          have HY := Lib.hid hy
          have hyu := HTY.out _ (List.mem_of_getElem? hy)
          clear hy
          generalize (wayOf n t)[k] = y at *
          have AD := Lib.hid fun w h => add_list l2 Al cl y w (by omega) h hup2
          have HLL := Lib.hid hLL; have HM2 := Lib.hid hmem2; have HBL := Lib.hid hbel2
          have k1 : (k : Int) < (wayOf n t).length := by omega
          clear hLL hmem2 hbel2 hup2
          go_wp2_with (go_at_call 34; refine (AD.out _ HLL.out).mono ?_; rintro e w4 ⟨L, A4, c4, hA, rfl, hL4, hb4⟩; have HA := Lib.hid hA; have HL4 := Lib.hid hL4; have HB4 := Lib.hid hb4; clear hA hL4 hb4)
          refine ⟨⟨k + 1, L, A4, c4, by omega, by go_num, rfl, HA.out.up, fun x => ?_, by have := HA.out.len; omega, HL4.out, HBL.out.trans (HB4.out.mono HBL.out.size)⟩, by simp [intOf]; omega⟩
          rw [HA.out.mem, HM2.out, List.take_add_one, HY.out, List.mem_append]
          simp [or_assoc]
        · obtain rfl : k = (wayOf n t).length := by omega
          have HM2 := Lib.hid hmem2
          clear hmem2
          go_wp2_with fail
          refine ⟨⟨i + 1, l2, Al, cl, by omega, by go_num, rfl, hup2, fun x => ?_, by omega, hLL, hb02.trans (hbel2.mono hszw)⟩, by simp [intOf]; omega⟩
          rw [HM2.out, onway_next HX.out, List.take_length]
    · obtain rfl : i = ts.length := by omega
      rw [List.take_length] at hmem
      have HM := Lib.hid hmem
      clear hmem
      go_wp2_with fail
      go_ret2
      exact ⟨l, ⟨hup, HM.out⟩, hll, Al, cl, rfl, hL, hbel⟩
end Go.Proofs.Ytnokhajjcjfbpaa
