/- The law PosTrees. -/
import Derived.Test.YtpicfccgfkemlaaPosTr
import Derived.Test.YtpicfccgfkemlaaPosL
namespace Go.Proofs.Ytpicfccgfkemlaa
open Go.RowKit

/-- A slice of the call's own: each of its places is a cell that reads so. -/
theorem own_at {w : World} {B : Nat} {e : TypeId} {A : Option Addr} {n c k : Nat} {xs : List Value} (h : w.ownsRow B e 1 (.slice A n c) n xs) (hk : k < n) :
    ∃ g, A = some ⟨g, 0, none⟩ ∧ B ≤ g ∧ g < w.heap.size ∧ w.cell? ⟨g, k, none⟩ = xs[k]? := by
  obtain ⟨g, cap, hv, hb, hlt⟩ := h.form (by omega)
  injection hv with h1 h2 h3
  subst h1
  subst h3
  exact ⟨g, rfl, hb, hlt, h.cellAt k (by omega)⟩

theorem trees_both (n : Nat) : ∃ zs : List Int, zs.length ≤ 63 ∧ (∀ w, Calls Try.prog 14 #[.int .u64 n] w (ListRet .i64 3 zs w)) ∧ (∀ w, Calls Try.prog 15 #[.int .u64 n] w (ListRet .i64 3 zs w)) := by
  by_cases h : (n : Int) ≤ 9223372036854775807
  · exact ⟨trees n, trk_len n 63, fun w => trees_yes n w h, fun w => refTrees_yes n w h⟩
  · exact ⟨[], by simp, fun w => trees_no n w h, fun w => refTrees_no n w h⟩

set_option maxRecDepth 100000 in
set_option maxHeartbeats 1000000 in
theorem trees_walk (n : Nat) (h : Int) (w : World) (hn : (n : Int) ≤ 18446744073709551615) :
    Calls Try.prog 3 #[.int .u64 n, .int .i64 h] w fun e w' => e = .returned (.bool true) ∧ Below w.heap.size w w' := by
  obtain ⟨v1, b1, c1, d1⟩ := rows_both n
  obtain ⟨v2, b2, c2, d2⟩ := root_both n h hn
  obtain ⟨zs, hz, c3, d3⟩ := trees_both n
  have C1 := Lib.hid c1; have D1 := Lib.hid d1; have C2 := Lib.hid c2; have D2 := Lib.hid d2; have C3 := Lib.hid c3; have D3 := Lib.hid d3
  clear c1 d1 c2 d2 c3 d3
  go_enter Try.func3, Try.ntmps3
  go_wp2_with fail
  refine (C1.out _).mono ?_
  rintro e w' ⟨rfl, n101, rfl⟩
  go_wp2_with fail
  refine (D1.out _).mono ?_
  rintro e w' ⟨rfl, n102, rfl⟩
  go_wp2_with fail
  refine (C2.out _).mono ?_
  rintro e w' ⟨rfl, n103, rfl⟩
  go_wp2_with fail
  refine (D2.out _).mono ?_
  rintro e w' ⟨rfl, n104, rfl⟩
  go_wp2_with fail
  refine (C3.out _).mono ?_
  rintro e w1 ⟨A, c, rfl, hown1, hb1⟩
  go_wp2_with fail
  refine (D3.out _).mono ?_
  rintro e w2 ⟨A2, c2, rfl, hown2, hb2⟩
  go_wp2_with fail
  have hbel : Below w.heap.size w w2 := (bel_drewN (Below.refl _ _) _).trans (hb1.trans (hb2.mono hb1.size))
  have HB := Lib.hid hbel
  clear hbel
  by_cases h0 : zs.length = 0
  · have h1 : zs = [] := List.eq_nil_of_length_eq_zero h0
    subst h1
    clear h0 hown1 hown2 hb1 hb2
    go_wp2_with fail
    refine wp_loop_rounds 1 ?_
    rw [rounds_succ]
    go_wp2_with fail
    refine (awake_any _).mono ?_
    rintro e w' ⟨rfl, n9, rfl⟩
    go_wp2_with fail
    go_ret
    exact ⟨rfl, bel_drewN HB.out _⟩
  · obtain ⟨g1, rfl, _, l1, _⟩ := own_at hown1 (k := 0) (by omega)
    obtain ⟨g2, rfl, _, l2, _⟩ := own_at hown2 (k := 0) (by omega)
    have key : ∀ k, k < zs.length → ∃ z : Int, w2.cell? ⟨g1, k, none⟩ = some (.int .i64 z) ∧ w2.cell? ⟨g2, k, none⟩ = some (.int .i64 z) := by
      intro k hk
      obtain ⟨a1, e1, _, m1, x1⟩ := own_at hown1 hk
      obtain ⟨a2, e2, _, m2, x2⟩ := own_at hown2 hk
      injection e1 with e1; injection e1 with e1; subst e1
      injection e2 with e2; injection e2 with e2; subst e2
      rw [List.getElem?_map, List.getElem?_eq_getElem hk] at x1 x2
      refine ⟨zs[k], ?_, x2⟩
      rw [hb2.cell (p := ⟨g1, k, none⟩) m1]
      exact x1
    have KEY := Lib.hid key
    clear key hown1 hown2 hb1 hb2 h0
    generalize zs.length = len at *
    go_wp2_with fail
    go_loopw [15] (fun i wr => ∃ k q : Nat, k ≤ len ∧ i = .int .i64 k ∧ wr = w2.drewN q) (fun i _ => len - (intOf i).toNat)
    case atStart => exact ⟨0, 0, by omega, rfl, rfl⟩
    case round =>
      obtain ⟨k, q, hk, rfl, rfl⟩ := hrel
      by_cases hlt : k < len
      · obtain ⟨z, x1, x2⟩ := KEY.out k hlt
        have b0 : (0 : Int) ≤ k := by omega
        have b1 : (k : Int) < len := by omega
        go_wp2_with fail
        go_quiet (fail)
        go_wp2_with fail
        exact ⟨⟨k + 1, _, by omega, by go_num, rfl⟩, by simp [intOf]; omega⟩
      · obtain rfl : k = len := by omega
        go_wp2_with fail
        refine (awake_any _).mono ?_
        rintro e w' ⟨rfl, n9, rfl⟩
        go_wp2_with fail
        go_ret
        exact ⟨rfl, bel_drewN HB.out _⟩
theorem law_PosTrees {H : Type} {enc : TypeId × Value → H} (W : World) (base : Nat) (v0 v1 : Value) (d0 d1 : DataW H) (p0 p1 : List MemPlace)
    (h0 : DataW.Trod enc Try.prog W 0 (fun _ => true) true 22 v0 d0 p0) (h1 : DataW.Trod enc Try.prog W 0 (fun _ => true) true 3 v1 d1 p1)
    (o0 : Value.okWide Try.prog W .any base 22 v0) (o1 : Value.okWide Try.prog W .any base 3 v1) :
    Calls Try.prog 3 #[v0, v1] W fun e w' => e = .returned (.bool true) ∧ Below W.heap.size W w' := by
  obtain ⟨a, rfl, wa⟩ := in_int Try.underlying22 h0 o0
  obtain ⟨b, rfl, wb⟩ := in_int Try.underlying3 h1 o1
  obtain ⟨a, rfl, ha⟩ := u64_nat wa
  exact trees_walk a b W ha
end Go.Proofs.Ytpicfccgfkemlaa
