/- The law's cut. -/
import Derived.Test.YtapdhmaeglafjaaIn
namespace Go.Proofs.Ytapdhmaeglafjaa
open Go.RowKit Go.Shelf

theorem cut_any (A : Option Addr) (c : Nat) (l : List Nat) (w : World) (hl : l.length ≤ c) (hc : c ≤ maxLen) (hs : SliceG w A l) :
    Calls Try.prog 17 #[.slice A l.length c] w fun e w' => ∃ A' c', e = .returned (.slice A' (l.take 20).length c') ∧ SliceG w A' (l.take 20) ∧ w = w' := by
  have hc2 : (c : Int) ≤ 9223372036854775807 := by simp only [maxLen] at hc; omega
  have hl2 : (l.length : Int) ≤ c := by omega
  go_enter Try.func17, Try.ntmps17
  go_wp2_with fail
  go_ret
  have e : (min (l.length : Int) 20).toNat = (l.take 20).length := by rw [List.length_take]; omega
  refine ⟨A, c, by rw [← e]; rfl, fun k hk => ?_, rfl⟩
  rw [List.length_take] at hk
  obtain ⟨ad, h1, h2, h3⟩ := hs k (by omega)
  exact ⟨ad, h1, h2, by rw [h3, List.getElem?_take_of_lt (by omega)]⟩
end Go.Proofs.Ytapdhmaeglafjaa
