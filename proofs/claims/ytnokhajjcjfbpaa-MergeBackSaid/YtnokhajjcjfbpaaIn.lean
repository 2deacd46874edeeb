/- Incoming lists of numbers; Same. -/
import Derived.Test.YtnokhajjcjfbpaaRx
import Derived.Laws.BytesArg
import Derived.WideShapes
namespace Go.Proofs.Ytnokhajjcjfbpaa
open Go.RowKit Go.Shelf

set_option maxHeartbeats 1000000 in
theorem same_list (a b : List Nat) (A B : Option Addr) (c d : Nat) (w : World) (ha : a.length ≤ 1000000) (_hb : b.length ≤ 1000000) (hs : SliceG w A a) (ht : SliceG w B b) : Calls Try.prog 21 #[.slice A a.length c, .slice B b.length d] w (QRet (.bool (decide (a = b))) w) := by
  by_cases hl : a.length = b.length
  · have hl' : (a.length : Int) = b.length := by omega
    go_enter Try.func21, Try.ntmps21
    go_wp2_with fail
    go_loopw [5] (fun v wr => ∃ k : Nat, k ≤ a.length ∧ v = .int .i64 k ∧ a.take k = b.take k ∧ ∃ q, wr = w.drewN q) (fun v _ => a.length - (intOf v).toNat)
    case atStart => exact ⟨0, by omega, rfl, by simp, 0, rfl⟩
    case round =>
      obtain ⟨k, hk, rfl, heq, q, rfl⟩ := hrel
      by_cases hlt : k < a.length
      · obtain ⟨g, rfl, hg, hc⟩ := hs k hlt
        obtain ⟨g2, rfl, hg2, hd⟩ := ht k (by omega)
        have hx : a[k]? = some a[k] := List.getElem?_eq_getElem hlt
        have hy : b[k]? = some (b[k]'(by omega)) := List.getElem?_eq_getElem (by omega)
        rw [hx] at hc
        rw [hy] at hd
        simp only [Option.map_some] at hc hd
        have HX := Lib.hid hx; have HY := Lib.hid hy; have HEQ := Lib.hid heq; have HL := Lib.hid hl
        clear hx hy heq hs ht
        generalize a[k] = x at *
        generalize (b[k]'(by have := HL.out; omega)) = y at *
        have k1 : (k : Int) < a.length := by omega
        have k2 : (k : Int) < b.length := by omega
        clear hl
        by_cases he : x = y
        · subst he
          have EQ := Lib.hid (show a.take (k + 1) = b.take (k + 1) from by rw [List.take_add_one, List.take_add_one, HX.out, HY.out, HEQ.out])
          go_wp2_with fail
          go_region
          all_goals go_wp2_with fail
          all_goals exact ⟨⟨k + 1, by omega, by go_num, EQ.out, q + 1, rfl⟩, by simp [intOf]; omega⟩
        · have he2 : ((x : Int) != y) = true := by rw [bne_iff_ne]; omega
          have E := Lib.hid (decide_eq_false (show ¬ a = b from fun e => he (by have h1 := HX.out; have h2 := HY.out; rw [e, h2] at h1; injection h1 with h1; exact h1.symm)))
          clear he
          go_wp2_with fail
          go_region
          all_goals go_wp2_with fail
          all_goals go_ret
          all_goals exact ⟨by rw [E.out]; rfl, q + 1, rfl⟩
      · obtain rfl : k = a.length := by omega
        have E := Lib.hid (decide_eq_true (show a = b from by rw [List.take_length, hl, List.take_length] at heq; exact heq))
        clear heq hl
        go_wp2_with fail
        go_ret
        exact ⟨by rw [E.out]; rfl, q, rfl⟩
  · have hl' : ((a.length : Int) != b.length) = true := by rw [bne_iff_ne]; omega
    have E := Lib.hid (decide_eq_false (show ¬ a = b from fun e => hl (by rw [e])))
    clear hl
    go_enter Try.func21, Try.ntmps21
    go_wp2_with fail
    go_ret
    exact QRet.mk0 (by rw [E.out]; rfl)

set_option maxRecDepth 100000 in
open Go.Lib Go.ChangeShapes Go.WideShapes in
/-- A slice of numbers of 64 bits that came in. -/
theorem in_nums {H : Type} {enc : TypeId × Value → H} {W : World} {v : Value} {d : DataW H} {p : List MemPlace} {base : Nat} (h : DataW.Trod enc Try.prog W 0 (fun _ => true) true 24 v d p) (o : Value.okWide Try.prog W .any base 24 v) :
    ∃ (A : Option Addr) (c : Nat) (l : List Nat), v = .slice A l.length c ∧ SliceG W A l ∧ l.length ≤ c ∧ c ≤ maxLen ∧ ∀ x ∈ l, (x : Int) ≤ 18446744073709551615 := by
  obtain ⟨a1, len, cap, rfl⟩ := okWide_slice Try.underlying24 o
  obtain ⟨fuel, hf⟩ := h
  rcases open_ints Try.underlying24 Try.underlying22 (by kernel_rfl) hf with ⟨hcs, hx⟩ | ⟨a, len', cap', zs, hcs, _, hl, hm, hz, hx, hcell, hwz⟩
  · simp [Value.cells] at hcs
    obtain ⟨rfl, rfl, rfl⟩ := hcs
    exact ⟨none, 0, [], rfl, fun k hk => by simp at hk, Nat.le_refl _, Nat.zero_le _, by simp⟩
  · simp [Value.cells] at hcs
    obtain ⟨rfl, rfl, rfl⟩ := hcs
    simp only [if_true] at hz
    have hlen : ((zs.take len).map Int.toNat).length = len := by simp; omega
    have hpos : ∀ z ∈ zs, 0 ≤ z ∧ z ≤ 18446744073709551615 := fun z hz => wf_u64 (hwz z hz)
    refine ⟨some a, cap, (zs.take len).map Int.toNat, by rw [hlen], fun j hj => ⟨a, rfl, ?_, ?_⟩, by rw [hlen]; exact hl, hm, fun x hx => ?_⟩
    · rw [hlen] at hj
      have h0 := hcell 0 (by omega)
      have := World.block_lt_of_cell? _ _ h0
      rwa [← add_block] at this
    · rw [hlen] at hj
      rw [hcell j (by omega), List.getElem?_map, List.getElem?_take_of_lt hj]
      have hj2 : j < zs.length := by omega
      rw [List.getElem?_eq_getElem hj2]
      have e : zs.getD j 0 = zs[j] := by simp [List.getD, List.getElem?_eq_getElem hj2]
      have := (hpos _ (List.getElem_mem hj2)).1
      simp only [Option.map_some, e]
      congr 2
      omega
    · obtain ⟨z, h1, rfl⟩ := List.mem_map.1 hx
      have := hpos z (List.mem_of_mem_take h1)
      omega
end Go.Proofs.Ytnokhajjcjfbpaa
