/- The law of puts. -/
import Derived.Test.YtgmbdhpanhkfhaaCoC
import Derived.Test.YtgmbdhpanhkfhaaSeq
namespace Go.Proofs.Ytgmbdhpanhkfhaa
open Go.RowKit Go.Lib Go.ChangeShapes Go.WideShapes

/-- A slice of bytes that came in. -/
theorem in_bytes {H : Type} {enc : TypeId × Value → H} {W : World} {v : Value} {d : DataW H} {p : List MemPlace} {base : Nat} (h : DataW.Trod enc Try.prog W 0 (fun _ => true) true 23 v d p) (o : Value.okWide Try.prog W .any base 23 v) :
    ∃ (A : Option Addr) (c : Nat) (l : List UInt8), v = .slice A l.length c ∧ (A = none → l.length = 0 ∧ c = 0) ∧ Rd W A l ∧ l.length ≤ c ∧ c ≤ maxLen := by
  obtain ⟨a1, len, cap, rfl⟩ := okWide_slice Try.underlying23 o
  obtain ⟨fuel, hf⟩ := h
  rcases open_ints Try.underlying23 Try.underlying5 (by kernel_rfl) hf with ⟨hcs, hx⟩ | ⟨a, len', cap', zs, hcs, _, hl, hm, hz, hx, hcell, hwz⟩
  · simp [Value.cells] at hcs
    obtain ⟨rfl, rfl, rfl⟩ := hcs
    exact ⟨none, 0, [], rfl, fun _ => ⟨rfl, rfl⟩, Rd.nil _ _, Nat.le_refl _, Nat.zero_le _⟩
  · simp [Value.cells] at hcs
    obtain ⟨rfl, rfl, rfl⟩ := hcs
    simp only [if_true] at hz
    have hlen : ((zs.take len).map fun n => UInt8.ofNat n.toNat).length = len := by simp; omega
    refine ⟨some a, cap, (zs.take len).map fun n => UInt8.ofNat n.toNat, by rw [hlen], (fun h => by cases h), fun hpos => ?_, by rw [hlen]; exact hl, hm⟩
    refine ⟨a, rfl, ?_, fun j hj => ?_⟩
    · have h0 := hcell 0 (by omega)
      have := World.block_lt_of_cell? _ _ h0
      rwa [addr_block] at this
    · rw [hlen] at hj
      rw [hcell j (by omega)]
      have hb := range_u8 hwz j
      simp only [List.getElem_map, List.getElem_take]
      have e : zs.getD j 0 = zs[j]'(by omega) := by simp [List.getD, List.getElem?_eq_getElem (show j < zs.length by omega)]
      rw [List.getD_eq_getElem?_getD] at e
      rw [e] at hb
      rw [List.getD_eq_getElem?_getD, e]
      congr 2
      simp only [UInt8.toNat_ofNat']
      omega

/-- The first 3000 of them. -/
theorem cut_any (A : Option Addr) (n c m : Nat) (w : World) (hm : m = min n 3000) (hnc : n ≤ c) : Calls Try.prog 12 #[.slice A n c] w fun e w' => e = .returned (.slice A m c) ∧ w = w' := by
  by_cases h : n ≤ 3000
  · have e1 : m = n := by omega
    subst e1
    have h1 : (m : Int) ≤ 3000 := by omega
    clear hm h
    go_enter Try.func12, Try.ntmps12
    go_wp2_with fail
    go_ret
    exact ⟨rfl, rfl⟩
  · have e1 : m = 3000 := by omega
    subst e1
    have h1 : (3000 : Int) < n := by omega
    have h2 : 3000 ≤ c := by omega
    clear hm h
    go_enter Try.func12, Try.ntmps12
    go_wp2_with fail
    go_ret
    exact ⟨rfl, rfl⟩
end Go.Proofs.Ytgmbdhpanhkfhaa
