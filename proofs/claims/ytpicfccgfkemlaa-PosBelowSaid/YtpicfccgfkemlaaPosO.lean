/- The law PosBelow. -/
import Derived.Test.YtpicfccgfkemlaaPosL
import Derived.Test.YtpicfccgfkemlaaBase
namespace Go.Proofs.Ytpicfccgfkemlaa
open Go.RowKit

set_option maxHeartbeats 1000000 in
theorem below_walk (a b : Nat) (r s : Int) (w : World) (ha : (a : Int) ≤ 18446744073709551615) (hb : (b : Int) ≤ 18446744073709551615) :
    Calls Try.prog 6 #[.int .u64 a, .int .u64 b, .agg #[.int .i64 r, .int .i64 s]] w fun e w' => e = .returned (.bool true) ∧ Below w.heap.size w w' := by
  obtain ⟨v, t, c, d⟩ := remap_both a r s ha
  have C := Lib.hid c
  have D := Lib.hid d
  clear c d
  go_enter Try.func6, Try.ntmps6
  go_wp2_with fail
  refine (C.out _).mono ?_
  rintro e w' ⟨rfl, n101, rfl⟩
  go_wp2_with fail
  refine (D.out _).mono ?_
  rintro e w' ⟨rfl, n102, rfl⟩
  go_wp2_with fail
  go_quiet ((first | (go_at_call 30; exact quiet_add (within_any _ _ _ _ ha hb)) | (go_at_call 31; exact quiet_add (refWithin_any _ _ _ _ ha hb)) | (go_at_call 16; exact quiet_add (awake_any _))))
  go_wp2_with fail
  go_ret
  exact ⟨rfl, bel_drewN (bel_drewN ((Below.refl _ _).alloc (Nat.le_refl _) _) _) _⟩

theorem law_PosBelow {H : Type} {enc : TypeId × Value → H} (W : World) (base : Nat) (v0 v1 v2 : Value) (d0 d1 d2 : DataW H) (p0 p1 p2 : List MemPlace)
    (h0 : DataW.Trod enc Try.prog W 0 (fun _ => true) true 22 v0 d0 p0) (h1 : DataW.Trod enc Try.prog W 0 (fun _ => true) true 22 v1 d1 p1) (h2 : DataW.Trod enc Try.prog W 0 (fun _ => true) true 37 v2 d2 p2)
    (o0 : Value.okWide Try.prog W .any base 22 v0) (o1 : Value.okWide Try.prog W .any base 22 v1) (o2 : Value.okWide Try.prog W .any base 37 v2) :
    Calls Try.prog 6 #[v0, v1, v2] W fun e w' => e = .returned (.bool true) ∧ Below W.heap.size W w' := by
  obtain ⟨a, rfl, wa⟩ := in_int Try.underlying22 h0 o0
  obtain ⟨b, rfl, wb⟩ := in_int Try.underlying22 h1 o1
  obtain ⟨zs, hz, rfl, _⟩ := in_array Try.underlying37 Try.underlying3 (by kernel_rfl) (by kernel_rfl) h2 o2
  obtain ⟨a, rfl, ha⟩ := u64_nat wa
  obtain ⟨b, rfl, hb⟩ := u64_nat wb
  match zs, hz with
  | [r, s], _ => exact below_walk a b r s W ha hb
end Go.Proofs.Ytpicfccgfkemlaa
