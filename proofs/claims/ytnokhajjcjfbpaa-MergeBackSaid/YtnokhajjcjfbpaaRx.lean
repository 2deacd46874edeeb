/- The document's lists: has, Same. -/
import Derived.Test.YtnokhajjcjfbpaaRw
import Derived.Test.YtnokhajjcjfbpaaVal
namespace Go.Proofs.Ytnokhajjcjfbpaa
open Go.RowKit Go.Shelf

set_option maxHeartbeats 1000000 in
theorem has_list (l : List Nat) (A : Option Addr) (c p : Nat) (w : World) (hlen : l.length ≤ 1000000) (hs : SliceG w A l) : Calls Try.prog 33 #[.slice A l.length c, .int .u64 p] w fun e w' => e = .returned (.bool (decide (p ∈ l))) ∧ w = w' := by
  go_enter Try.func33, Try.ntmps33
  go_wp2_with fail
  go_loopw [5] (fun v wr => ∃ k : Nat, k ≤ l.length ∧ v = .int .i64 k ∧ p ∉ l.take k ∧ wr = w) (fun v _ => l.length - (intOf v).toNat)
  case atStart => exact ⟨0, by omega, rfl, by simp, rfl⟩
  case round =>
    obtain ⟨k, hk, rfl, hno, rfl⟩ := hrel
    by_cases hlt : k < l.length
    · obtain ⟨g, rfl, hg, hc⟩ := hs k hlt
      have hx : l[k]? = some l[k] := List.getElem?_eq_getElem hlt
      rw [hx] at hc
      simp only [Option.map_some] at hc
      have k1 : (k : Int) < l.length := by omega
      have HX := Lib.hid hx
      have HS := Lib.hid hs
      clear hs hx
      generalize l[k] = z at *
      by_cases he : z = p
      · subst he
        have HM := Lib.hid (decide_eq_true (List.mem_of_getElem? HX.out))
        go_wp2_with fail
        go_ret
        exact ⟨by rw [HM.out]; rfl, rfl⟩
      · have hne : ((z : Int) == p) = false := by rw [beq_eq_false_iff_ne]; omega
        have NO := Lib.hid (show p ∉ l.take (k + 1) from by
          rw [List.take_add_one, HX.out]
          intro h
          rcases List.mem_append.1 h with h | h
          · exact hno h
          · simp at h
            exact he h.symm)
        clear hno he
        go_wp2_with fail
        exact ⟨⟨k + 1, by omega, by go_num, NO.out, trivial⟩, by simp [intOf]; omega⟩
    · obtain rfl : k = l.length := by omega
      rw [List.take_length] at hno
      have HM := Lib.hid (decide_eq_false hno)
      clear hno
      go_wp2_with fail
      go_ret
      exact ⟨by rw [HM.out]; rfl, rfl⟩
end Go.Proofs.Ytnokhajjcjfbpaa
