/- NeedMoves. -/
import Derived.Test.YtapdhmaeglafjaaCu
import Derived.Test.YtapdhmaeglafjaaRm
import Derived.Test.YtapdhmaeglafjaaNi
namespace Go.Proofs.Ytapdhmaeglafjaa
open Go.RowKit Go.Shelf

theorem moves_both (n : Nat) (ts : List Nat) (A : Option Addr) (c x : Nat) (hnu : (n : Int) ≤ 18446744073709551615) (hxu : (x : Int) ≤ 18446744073709551615) (hlen : ts.length ≤ 1000) (hu : ∀ t ∈ ts, (t : Int) ≤ 18446744073709551615) :
    ∃ (g s : Bool) (e q : Int), (∀ w, SliceG w A ts → Calls Try.prog 18 #[.int .u64 n, .slice A ts.length c, .int .u64 x] w (NRet (.tuple #[.bool g, .int .i64 e]) w)) ∧
      (∀ w, SliceG w A ts → Calls Try.prog 19 #[.int .u64 n, .slice A ts.length c, .int .u64 x] w (NRet (.tuple #[.bool g, .int .i64 e]) w)) ∧
      (∀ w, SliceG w A ts → Calls Try.prog 20 #[.int .u64 n, .slice A ts.length c, .int .u64 x] w (NRet (.tuple #[.int .u64 q, .bool s, .int .i64 e]) w)) ∧
      (∀ w, SliceG w A ts → Calls Try.prog 21 #[.int .u64 n, .slice A ts.length c, .int .u64 x] w (NRet (.tuple #[.int .u64 q, .bool s, .int .i64 e]) w)) := by
  by_cases h : Valid n ts ∧ InF n x
  · obtain ⟨hv, hin⟩ := h
    cases hg : goneB n ts x
    · exact ⟨false, true, 0, (movedF n ts x : Nat), fun w h => (by have := Gone_yes n ts A c x w hlen h hv hin; rwa [hg] at this), fun w h => (by have := refGone_yes n ts A c x w hlen h hv hin; rwa [hg] at this), fun w h => Moved_yes n ts A c x w hlen h hv hin hg, fun w h => refMoved_yes n ts A c x w hlen h hv hin hg⟩
    · exact ⟨true, false, 0, 0, fun w h => (by have := Gone_yes n ts A c x w hlen h hv hin; rwa [hg] at this), fun w h => (by have := refGone_yes n ts A c x w hlen h hv hin; rwa [hg] at this), fun w h => Moved_gone n ts A c x w hlen h hv hin hg, fun w h => refMoved_gone n ts A c x w hlen h hv hin hg⟩
  · exact ⟨false, false, 2, 0, fun w hs => Gone_no n ts A c x w hnu hxu hlen hu hs h, fun w hs => refGone_no n ts A c x w hxu hlen hu hs h, fun w hs => Moved_no n ts A c x w hnu hxu hlen hu hs h, fun w hs => refMoved_no n ts A c x w hxu hlen hu hs h⟩

set_option maxHeartbeats 4000000 in
set_option maxRecDepth 100000 in
theorem moves_walk (n : Nat) (A B : Option Addr) (c d : Nat) (l0 ps : List Nat) (w : World) (hnu : (n : Int) ≤ 18446744073709551615) (hl : l0.length ≤ c) (hc : c ≤ maxLen) (hs : SliceG w A l0) (hu : ∀ x ∈ l0, (x : Int) ≤ 18446744073709551615)
    (hpl : ps.length ≤ d) (hd : d ≤ maxLen) (hp : SliceG w B ps) (hpu : ∀ x ∈ ps, (x : Int) ≤ 18446744073709551615) :
    Calls Try.prog 4 #[.int .u64 n, .slice A l0.length c, .slice B ps.length d] w (NRet (.bool true) w) := by
  have hps : (ps.length : Int) ≤ 9223372036854775807 := by simp only [maxLen] at hd; omega
  clear hpl hd
  go_enter Try.func4, Try.ntmps4
  go_wp2_with (go_at_call 17; refine (cut_any A c l0 _ hl hc hs).mono ?_; rintro e w' ⟨A1, c1, rfl, hs1, rfl⟩; have hl20 : (l0.take 20).length ≤ 20 := (by rw [List.length_take]; omega); have hut : ∀ x ∈ l0.take 20, (x : Int) ≤ 18446744073709551615 := (fun x hx => hu x (List.mem_of_mem_take hx)); have HS1 := Lib.hid hs1; have HU := Lib.hid hut; clear hs1 hs hu hut hl hc; generalize l0.take 20 = l at *)
  have hs1 := HS1.out
  go_loopw [8, 9, 10, 11, 12, 13, 14, 15, 16, 17, 18] (fun v8 _ _ _ _ _ _ _ _ _ _ wr => ∃ i : Nat, i ≤ ps.length ∧ v8 = .int .i64 i ∧ Below w.heap.size w wr ∧ SliceG wr A1 l ∧ SliceG wr B ps) (fun v8 _ _ _ _ _ _ _ _ _ _ _ => ps.length - (intOf v8).toNat)
  case atStart => exact ⟨0, by omega, rfl, Below.refl _ _, hs1, hp⟩
  case round =>
    obtain ⟨i, hi, rfl, hbel, hsl, hsp⟩ := hrel
    have HBE := Lib.hid hbel
    have HSL := Lib.hid hsl
    have HSP := Lib.hid hsp
    clear hbel hsl
    by_cases hlt : i < ps.length ∧ i < 20
    · obtain ⟨hlt, hlt2⟩ := hlt
      obtain ⟨g, rfl, hg, hc⟩ := hsp i hlt
      have hx : ps[i]? = some ps[i] := List.getElem?_eq_getElem hlt
      rw [hx] at hc
      simp only [Option.map_some] at hc
      have hxu := hpu _ (List.mem_of_getElem? hx)
      have HX := Lib.hid hx
      clear hx hsp
      generalize ps[i] = x at *
      have i0 : (0 : Int) ≤ i := by omega
      have i1 : (i : Int) < ps.length := by omega
      have i2 : (i : Int) < 20 := by omega
      obtain ⟨gb, sb, e, q, M1, M2, M3, M4⟩ := moves_both n l A1 c1 x hnu hxu (by omega) HU.out
      have M1 := Lib.hid M1; have M2 := Lib.hid M2; have M3 := Lib.hid M3; have M4 := Lib.hid M4
      have cellAt : ∀ W, SliceG W (some g) ps → g.block < W.heap.size ∧ W.cell? (g.add i) = some (.int .u64 x) := fun W h => by
        obtain ⟨_, e, h1, h2⟩ := h i hlt
        cases e
        rw [HX.out] at h2
        exact ⟨h1, h2⟩
      have CA := Lib.hid cellAt
      clear cellAt
      go_wp2_with fail
      refine (M1.out _ HSL.out).mono ?_
      rintro e1 w2 ⟨rfl, hb⟩
      have HB2 := Lib.hid (HBE.out.trans (hb.mono HBE.out.size)); have HL2 := Lib.hid (SliceG.after HSL.out hb); have HP2 := Lib.hid (SliceG.after HSP.out hb)
      obtain ⟨hg2, hc2⟩ := CA.out _ HP2.out
      clear hb hc hg
      go_wp2_with fail
      refine (M2.out _ HL2.out).mono ?_
      rintro e1 w3 ⟨rfl, hb⟩
      have HB3 := Lib.hid (HB2.out.trans (hb.mono HB2.out.size)); have HL3 := Lib.hid (SliceG.after HL2.out hb); have HP3 := Lib.hid (SliceG.after HP2.out hb)
      obtain ⟨hg3, hc3⟩ := CA.out _ HP3.out
      clear hb hc2 hg2
      go_wp2_with fail
      refine (M3.out _ HL3.out).mono ?_
      rintro e1 w4 ⟨rfl, hb⟩
      have HB4 := Lib.hid (HB3.out.trans (hb.mono HB3.out.size)); have HL4 := Lib.hid (SliceG.after HL3.out hb); have HP4 := Lib.hid (SliceG.after HP3.out hb)
      obtain ⟨hg4, hc4⟩ := CA.out _ HP4.out
      clear hb hc3 hg3
      go_wp2_with fail
      refine (M4.out _ HL4.out).mono ?_
      rintro e1 w5 ⟨rfl, hb⟩
      have HB5 := Lib.hid (HB4.out.trans (hb.mono HB4.out.size)); have HL5 := Lib.hid (SliceG.after HL4.out hb); have HP5 := Lib.hid (SliceG.after HP4.out hb)
      clear hb hc4 hg4
      go_wp2_with fail
      exact ⟨⟨i + 1, by omega, by go_num, HB5.out, HL5.out, HP5.out⟩, by simp [intOf]; omega⟩
    · by_cases hlt1 : i < ps.length
      · have i1 : (i : Int) < ps.length := by omega
        have i2 : ¬ (i : Int) < 20 := by omega
        go_wp2_with fail
        refine (works_any _).mono ?_
        rintro e w2 ⟨rfl, hb⟩
        have HB2 := Lib.hid (HBE.out.trans (hb.mono HBE.out.size))
        clear hb
        go_wp2_with fail
        go_ret
        exact ⟨rfl, HB2.out⟩
      · obtain rfl : i = ps.length := by omega
        go_wp2_with fail
        refine (works_any _).mono ?_
        rintro e w2 ⟨rfl, hb⟩
        have HB2 := Lib.hid (HBE.out.trans (hb.mono HBE.out.size))
        clear hb
        go_wp2_with fail
        go_ret
        exact ⟨rfl, HB2.out⟩

set_option maxRecDepth 100000 in
theorem law_NeedMoves {H : Type} {enc : TypeId × Value → H} (W : World) (base : Nat) (v0 v1 v2 : Value) (d0 d1 d2 : DataW H) (p0 p1 p2 : List MemPlace)
    (h0 : DataW.Trod enc Try.prog W 0 (fun _ => true) true 22 v0 d0 p0) (h1 : DataW.Trod enc Try.prog W 0 (fun _ => true) true 23 v1 d1 p1) (h2 : DataW.Trod enc Try.prog W 0 (fun _ => true) true 23 v2 d2 p2)
    (o0 : Value.okWide Try.prog W .any base 22 v0) (o1 : Value.okWide Try.prog W .any base 23 v1) (o2 : Value.okWide Try.prog W .any base 23 v2) :
    Calls Try.prog 4 #[v0, v1, v2] W fun e w' => e = .returned (.bool true) ∧ Below W.heap.size W w' := by
  obtain ⟨a, rfl, wa⟩ := in_int Try.underlying22 h0 o0
  obtain ⟨n, rfl, hn⟩ := u64_nat wa
  obtain ⟨A, c, l, rfl, hs, hl, hc, hu⟩ := in_nums h1 o1
  obtain ⟨B, d, ps, rfl, hp, hpl, hd, hpu⟩ := in_nums h2 o2
  exact moves_walk n A B c d l ps W hn hl hc hs hu hpl hd hp hpu
end Go.Proofs.Ytapdhmaeglafjaa
