/- The law that what is got is put as the bytes that were taken. -/
import Derived.Test.YtgmbdhpanhkfhaaCoF
namespace Go.Proofs.Ytgmbdhpanhkfhaa
open Go.RowKit Go.Lib Go.ChangeShapes Go.WideShapes

theorem digs_valB : ∀ (l : List UInt8), digs l.length (valB l) = l := by
  have key : ∀ (l : List UInt8) (k : Nat), digs (l.length + 0) (valB l) = l ∧ k = k := by
    intro l k
    refine ⟨?_, rfl⟩
    induction l with
    | nil => rfl
    | cons b l ih =>
      rw [Nat.add_zero] at *
      unfold digs at *
      rw [List.length_cons, List.range_succ_eq_map, List.map_cons, List.map_map]
      congr 1
      · have hb : b.toNat < 256 := b.toNat_lt
        show UInt8.ofNat ((b.toNat + 256 * valB l) / 2 ^ (8 * 0)) = b
        rw [Nat.mul_zero, Nat.pow_zero, Nat.div_one]
        apply UInt8.toNat_inj.1
        simp
      · conv => rhs; rw [← ih]
        apply List.map_congr_left
        intro i _
        show UInt8.ofNat ((b.toNat + 256 * valB l) / 2 ^ (8 * (i + 1))) = UInt8.ofNat (valB l / 2 ^ (8 * i))
        have hb : b.toNat < 256 := b.toNat_lt
        rw [show 8 * (i + 1) = 8 + 8 * i from by omega, Nat.pow_add, ← Nat.div_div_eq_div_mul, show (2 : Nat) ^ 8 = 256 from rfl, show (b.toNat + 256 * valB l) / 256 = valB l from by omega]
  intro l
  have := (key l 0).1
  rwa [Nat.add_zero] at this

theorem cwidth_inv (x : Nat) : (cwidth x = 2 → x = 253) ∧ (cwidth x = 4 → x = 254) ∧ (cwidth x = 8 → x = 255) := by
  unfold cwidth
  repeat' split
  all_goals omega

/-- The shortest form that stands there is the number's. -/
theorem form_whole {b : UInt8} {r : List UInt8} {n : Nat} (hW : cwidth b.toNat ≤ r.length) (hn : n = if cwidth b.toNat = 0 then b.toNat else valB (r.take (cwidth b.toNat))) (hs : csize n = cwidth b.toNat + 1) : cform n = b :: r.take (cwidth b.toNat) := by
  by_cases h0 : cwidth b.toNat = 0
  · rw [if_pos h0] at hn
    rw [h0] at hs
    have hlt : n < 253 := by
      rcases Nat.lt_or_ge n 253 with h | h
      · exact h
      · obtain ⟨W, F, _, e2, hc⟩ := cform_wide (n := n) (by omega)
        omega
    rw [h0, List.take_zero]
    unfold cform
    rw [if_pos hlt, hn]
    congr 1
    apply UInt8.toNat_inj.1
    have := b.toNat_lt
    simp
  · rw [if_neg h0] at hn
    have hge : ¬ n < 253 := by
      intro h
      have : csize n = 1 := by unfold csize; rw [if_pos h]
      omega
    obtain ⟨W, F, e1, e2, hc⟩ := cform_wide hge
    have hWW : W = cwidth b.toNat := by omega
    have hF : F = b := by
      have hx := (cwidth_inv b.toNat).1
      have hy := (cwidth_inv b.toNat).2.1
      have hz := (cwidth_inv b.toNat).2.2
      apply UInt8.toNat_inj.1
      rcases hc with ⟨h1, rfl, _⟩ | ⟨h1, rfl, _⟩ | ⟨h1, rfl, _⟩
      · rw [hx (by omega)]; rfl
      · rw [hy (by omega)]; rfl
      · rw [hz (by omega)]; rfl
    rw [e1, hF, hn, hWW]
    congr 1
    have hl : (r.take (cwidth b.toNat)).length = cwidth b.toNat := by rw [List.length_take]; omega
    have := digs_valB (r.take (cwidth b.toNat))
    rwa [hl] at this
end Go.Proofs.Ytgmbdhpanhkfhaa
