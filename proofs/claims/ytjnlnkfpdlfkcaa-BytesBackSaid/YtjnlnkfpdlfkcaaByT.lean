/- The law of torn readers. -/
import Derived.Test.YtjnlnkfpdlfkcaaByH
import Derived.Test.YtjnlnkfpdlfkcaaByL
import Derived.Deep.Slices
import Derived.Deep.Fields
import Derived.ChangeSame
namespace Go.Proofs.Ytjnlnkfpdlfkcaa
open Go.RowKit Go.Lib Go.ChangeShapes Go.WideShapes Go.Deep

/-- The second field of each of n elements of two cells is a number. -/
def Seconds (w : World) (A : Option Addr) (n : Nat) : Prop := ∀ i, i < n → ∃ (b o : Nat) (z : Int), A = some ⟨b, o, none⟩ ∧ b < w.heap.size ∧ w.cell? ⟨b, o + i * 2 + 1, none⟩ = some (.int .i64 z)
theorem in_acts {H : Type} {enc : TypeId × Value → H} {W : World} {v : Value} {d : DataW H} {p : List MemPlace} {base : Nat} (h : DataW.Trod enc Try.prog W 0 (fun _ => true) true 45 v d p) (o : Value.okWide Try.prog W .any base 45 v) :
    ∃ (A : Option Addr) (n c : Nat), v = .slice A n c ∧ Seconds W A n ∧ n ≤ c ∧ c ≤ maxLen := by
  obtain ⟨a1, len, cap, rfl⟩ := okWide_slice Try.underlying45 o
  obtain ⟨fuel, hf⟩ := h
  rcases open_slice Try.underlying45 hf with ⟨hcs, hx⟩ | ⟨a, len', cap', m, n, D, Pl, hcs, _, hl, hm, hmm, hx, hi⟩
  · simp [Value.cells] at hcs
    obtain ⟨rfl, rfl, rfl⟩ := hcs
    exact ⟨none, 0, 0, rfl, fun i hi => absurd hi (Nat.not_lt_zero i), Nat.le_refl _, Nat.zero_le _⟩
  · simp [Value.cells] at hcs
    obtain ⟨rfl, rfl, rfl⟩ := hcs
    simp only [if_true] at hmm
    refine ⟨some a, len, cap, rfl, fun i hil => ?_, hl, hm⟩
    have hcell2 : Try.prog.cellsOf 47 = 2 := by kernel_rfl
    obtain ⟨cs0, hc0, _⟩ := hi 0 (by omega)
    rw [hcell2] at hc0
    obtain ⟨_, hcl0, hat0⟩ := World.cells?_some hc0
    obtain ⟨cs', hc, ht'⟩ := hi i (by omega)
    rw [hcell2] at hc
    obtain ⟨ys, n', hn', hy, hlen, hyl, hfl⟩ := DataW.trod_struct Try.underlying47 ht'
    obtain ⟨_, hcl, hat⟩ := World.cells?_some hc
    obtain ⟨ab, ao, spot⟩ := a
    have h00 := hat0 0 (by omega)
    have hspot : spot = none := by
      have := World.cell?_spot (h00.trans (List.getElem?_eq_getElem (show 0 < cs0.length by omega)))
      simpa [Addr.add] using this
    subst hspot
    have h1 := hat 1 (by omega)
    have hyl2 : ys.length = 2 := hyl
    have hj := hfl 1 _ rfl
    match cs', hcl with
    | [c0, c1], _ =>
      have hj' : DataW.trod enc Try.prog W 0 (fun _ => true) true n' 3 [c1] = ys[1]? := by
        have e1 : Try.prog.cellsOf 3 = 1 := by kernel_rfl
        simpa [e1] using hj
      have hy1 : ys[1]? = some (ys[1]'(by omega)) := List.getElem?_eq_getElem (by omega)
      rw [hy1] at hj'
      obtain ⟨z, ez, _, _⟩ := DataW.trod_int Try.underlying3 hj'
      simp at ez
      subst ez
      have h2 : W.cell? ⟨ab, ao + i * 2 + 1, none⟩ = some (.int .i64 z) := by
        rw [Addr.add_lit, Addr.add_lit] at h1
        exact h1
      exact ⟨ab, ao, z, rfl, World.block_lt_of_cell? _ _ h2, h2⟩

theorem zeros_ne (w : World) : (binOp .neq 39 (.agg zl.toArray) (.agg #[.int .u8 0, .int .u8 0, .int .u8 0, .int .u8 0, .int .u8 0, .int .u8 0, .int .u8 0, .int .u8 0, .int .u8 0, .int .u8 0, .int .u8 0, .int .u8 0, .int .u8 0, .int .u8 0, .int .u8 0, .int .u8 0, .int .u8 0, .int .u8 0, .int .u8 0, .int .u8 0, .int .u8 0, .int .u8 0, .int .u8 0, .int .u8 0, .int .u8 0, .int .u8 0, .int .u8 0, .int .u8 0, .int .u8 0, .int .u8 0, .int .u8 0, .int .u8 0])).run Try.prog w = .ok (.bool false) w := by
  rw [zeros_def]
  have e : zl.toArray = ((List.replicate 32 (0 : Int)).map (Value.int .u8)).toArray := rfl
  rw [e]
  have := run_neq_nums w 39 5 32 .u8 Try.underlying39 Try.underlying5 (fun _ => by kernel_rfl) (List.replicate 32 0) (List.replicate 32 0) (by simp) (by simp)
  rw [this]
  simp

set_option maxRecDepth 100000 in
set_option maxHeartbeats 4000000 in
theorem torn_big (A A2 : Option Addr) (c n2 c2 : Nat) (l : List UInt8) (m : Nat) (w : World) (hl : ¬ (l.length ≤ 5000 ∧ n2 ≤ 20)) :
    Calls Try.prog 6 #[.slice A l.length c, .int .u8 m, .slice A2 n2 c2] w (BRet (.bool true) w) := by
  have C := Lib.hid awake_any
  have h : (5000 : Int) < l.length ∨ (¬ (5000 : Int) < l.length ∧ (20 : Int) < n2) := by omega
  clear hl
  rcases h with h5 | ⟨h5, h6⟩
  all_goals
    go_enter Try.func6, Try.ntmps6
    go_wp2_with fail
    refine (C.out _).mono ?_
    rintro e w1 ⟨rfl, hb⟩
    go_wp2_with fail
    go_ret
    exact ⟨rfl, hb⟩

set_option maxRecDepth 100000 in
set_option maxHeartbeats 8000000 in
theorem torn_walk (A A2 : Option Addr) (c n2 c2 : Nat) (l : List UInt8) (m : Nat) (w : World) (hl : l.length ≤ 5000) (hn : n2 ≤ 20) (h0 : A = none → l.length = 0 ∧ c = 0) (hr : Rd w A l) (hm : m ≤ 255) (hs : Seconds w A2 n2) :
    Calls Try.prog 6 #[.slice A l.length c, .int .u8 m, .slice A2 n2 c2] w (BRet (.bool true) w) := by
  have AW := Lib.hid awake_any
  have h5 : ¬ (5000 : Int) < l.length := by omega
  have h6 : ¬ (20 : Int) < n2 := by omega
  have C1 := Lib.hid (open_any A l.length c l w rfl h0 hr (by omega))
  have C2 := Lib.hid (fun g w' (h : Live w' g l) => take_no g l ((l.length : Int) + 1 + m) w' h (by omega) (by omega))
  have C3 := Lib.hid (fun p w' (h : Dead w' p) => torn_dead p w' h)
  have D1 := Lib.hid (fun p k w' (h : Dead w' p) => num_dead p k w' h)
  have D2 := Lib.hid (fun p k w' (h : Dead w' p) => take_dead p k w' h)
  have D3 := Lib.hid (fun p k w' (h : Dead w' p) => peek_dead p k w' h)
  have D4 := Lib.hid (fun g w' (h : Dead w' (some ⟨g, 0, none⟩)) (hg : g < w'.heap.size) => hash_torn (some ⟨g, 0, none⟩) w' (fun g' e => by injection e with e; injection e with e; omega) (take_dead _ 32 _ (h.after ((Below.refl _ _).alloc (Nat.le_refl _) _).drew)))
  have D5 := Lib.hid (fun p w' (h : Dead w' p) => end_dead p w' h)
  have D6 := Lib.hid (fun p w' (h : Dead w' p) => left_dead p w' h)
  have zn := zeros_ne
  have HS := Lib.hid hs
  have hmw : IntKind.i64.wrap (m : Int) = m := IntWalk.i64_in _ (by omega)
  clear h0 hr hs
  go_enter Try.func6, Try.ntmps6
  go_wp2_with fail
  refine C1.out.mono ?_
  rintro e w1 ⟨g, rfl, hlive, hg, hb1⟩
  have HL := Lib.hid hlive
  have HB := Lib.hid hb1
  have HG := Lib.hid hg
  clear hlive hg hb1
  go_wp2_with fail
  refine (C2.out g w1 HL.out).mono ?_
  rintro e w2 ⟨rfl, hd, hc⟩
  have HD := Lib.hid hd
  have HB2 := Lib.hid ((hc.2 g rfl).bel _ _ HG.out HB.out)
  have HG2 := Lib.hid (show g < w2.heap.size from Nat.lt_of_lt_of_le HL.out.lt (hc.2 g rfl).size)
  clear hd hc
  go_wp2_with fail
  refine (C3.out _ _ HD.out).mono ?_
  rintro e w' ⟨rfl, rfl⟩
  go_wp2_with fail
  go_loopw [8] (fun i wr => ∃ k : Nat, k ≤ n2 ∧ i = .int .i64 k ∧ Dead wr (some ⟨g, 0, none⟩) ∧ g < wr.heap.size ∧ Below w.heap.size w wr) (fun i _ => n2 - (intOf i).toNat)
  case atStart => exact ⟨0, by omega, rfl, HD.out, HG2.out, HB2.out⟩
  case round =>
    obtain ⟨k, hk, rfl, hd, hgs, hbel⟩ := hrel
    have HDr := Lib.hid hd
    have HGr := Lib.hid hgs
    have HBr := Lib.hid hbel
    clear hd hgs hbel HD HG2 HB2
    by_cases hlt : k < n2
    · have hkn : (k : Int) < n2 := by omega
      obtain ⟨b, o, z, hA2, hb, hcell⟩ := HS.out k hlt
      subst hA2
      go_wp2_with fail
      refine (D1.out _ _ _ HDr.out).mono ?_
      rintro e w3 ⟨rfl, hd3, hc3⟩
      have hB3 := (hc3.2 g rfl).bel _ _ HG.out HBr.out
      have hcl3 := hB3.cell (p := ⟨b, o + k * 2 + 1, none⟩) hb |>.trans hcell
      have HD3 := Lib.hid hd3
      have HB3 := Lib.hid hB3
      have HG3 := Lib.hid (Nat.lt_of_lt_of_le HGr.out (hc3.2 g rfl).size)
      clear hd3 hc3 hB3
      go_wp2_with fail
      refine (D2.out _ _ _ HD3.out).mono ?_
      rintro e w4 ⟨rfl, hd4, hc4⟩
      have HD4 := Lib.hid hd4
      have HB4 := Lib.hid ((hc4.2 g rfl).bel _ _ HG.out HB3.out)
      have HG4 := Lib.hid (Nat.lt_of_lt_of_le HG3.out (hc4.2 g rfl).size)
      clear hd4 hc4 hcl3 hcell
      go_wp2_with fail
      refine (D3.out _ _ _ HD4.out).mono ?_
      rintro e w' ⟨rfl, rfl⟩
      go_wp2_with fail
      refine (D4.out _ _ HD4.out HG4.out).mono ?_
      rintro e w5 ⟨rfl, hd5, hc5⟩
      have HD5 := Lib.hid hd5
      have HB5 := Lib.hid ((hc5.2 g rfl).bel _ _ HG.out HB4.out)
      have HG5 := Lib.hid (Nat.lt_of_lt_of_le HG4.out (hc5.2 g rfl).size)
      clear hd5 hc5
      go_wp2_with fail
      refine (C3.out _ _ HD5.out).mono ?_
      rintro e w' ⟨rfl, rfl⟩
      go_wp2_with fail
      refine (D5.out _ _ HD5.out).mono ?_
      rintro e w' ⟨rfl, rfl⟩
      go_wp2_with fail
      refine (D6.out _ _ HD5.out).mono ?_
      rintro e w' ⟨rfl, rfl⟩
      go_wp2_with fail
      exact ⟨⟨k + 1, by omega, by go_num, HD5.out, HG5.out, HB5.out⟩, by simp [intOf]; omega⟩
    · obtain rfl : k = n2 := by omega
      go_wp2_with fail
      refine (AW.out _).mono ?_
      rintro e w3 ⟨rfl, hb3⟩
      go_wp2_with fail
      go_ret
      exact ⟨rfl, bel_on HBr.out hb3⟩

theorem law_BytesTorn {H : Type} {enc : TypeId × Value → H} (W : World) (base : Nat) (v0 v1 v2 : Value) (d0 d1 d2 : DataW H) (p0 p1 p2 : List MemPlace)
    (h0 : DataW.Trod enc Try.prog W 0 (fun _ => true) true 22 v0 d0 p0) (h1 : DataW.Trod enc Try.prog W 0 (fun _ => true) true 5 v1 d1 p1) (h2 : DataW.Trod enc Try.prog W 0 (fun _ => true) true 45 v2 d2 p2)
    (o0 : Value.okWide Try.prog W .any base 22 v0) (o1 : Value.okWide Try.prog W .any base 5 v1) (o2 : Value.okWide Try.prog W .any base 45 v2) :
    Calls Try.prog 6 #[v0, v1, v2] W fun e w' => e = .returned (.bool true) ∧ Below W.heap.size W w' := by
  obtain ⟨A, c, l, rfl, hz, hr, hlc, hcm⟩ := in_bytes h0 o0
  obtain ⟨m', rfl, wm⟩ := in_int Try.underlying5 h1 o1
  obtain ⟨A2, n2, c2, rfl, hs, _, _⟩ := in_acts h2 o2
  have hm := wf_u8 wm
  obtain ⟨m, rfl⟩ := Int.eq_ofNat_of_zero_le hm.1
  by_cases hl : l.length ≤ 5000 ∧ n2 ≤ 20
  · exact torn_walk A A2 c n2 c2 l m W hl.1 hl.2 hz hr (by omega) hs
  · exact torn_big A A2 c n2 c2 l m W hl
end Go.Proofs.Ytjnlnkfpdlfkcaa
