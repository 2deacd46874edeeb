/- Slices of heights; the library's Backward over them. Printed by gensi.py out of XVal. -/
import Derived.Test.YtapdhmaeglafjaaVal
namespace Go.Proofs.Ytapdhmaeglafjaa
open Go.RowKit Go.Shelf
attribute [local go_sem] Oper.semAt_some

/-- The slice at A holds these numbers. -/
def SliceI (W : World) (A : Option Addr) (zs : List Nat) : Prop := ∀ k, k < zs.length → ∃ g, A = some ⟨g, 0, none⟩ ∧ g < W.heap.size ∧ W.cell? ⟨g, k, none⟩ = (zs[k]?).map fun x : Nat => Value.int .i64 x

section
variable {A : Option Addr} {W W' : World} {zs : List Nat}
theorem SliceI.kept (h : SliceI W A zs) (hk : KpA A W W') : SliceI W' A zs := fun k hlt => by
  obtain ⟨g, e, h1, h2⟩ := h k hlt
  exact ⟨g, e, by have := (hk g e).1; omega, (cell_same (p := ⟨g, k, none⟩) (hk g e).2).trans h2⟩
theorem SliceI.of_own {B n c : Nat} (h : W.ownsRow B 3 1 (.slice A n c) n ((ints zs).map (Value.int .i64))) (hn : n = zs.length) : SliceI W A zs := fun k hk => by
  obtain ⟨g, e, _, h1, h2⟩ := own_at h (k := k) (by omega)
  refine ⟨g, e, h1, ?_⟩
  rw [h2, List.getElem?_map, ints, List.getElem?_map]
  cases zs[k]? <;> rfl
theorem SliceI.below {B : Nat} (h : SliceI W A zs) (hb : Below B W W') (hA : ∀ g, A = some ⟨g, 0, none⟩ → g < B) : SliceI W' A zs := h.kept (KpA.of_below hb hA)
theorem SliceI.after (h : SliceI W A zs) (hb : Below W.heap.size W W') : SliceI W' A zs := fun k hk => by
  obtain ⟨g, e, h1, h2⟩ := h k hk
  exact ⟨g, e, by have := hb.size; omega, (hb.cell (p := ⟨g, k, none⟩) h1).trans h2⟩
end

theorem backwardI_any (A : Option Addr) (k c : Nat) (w : World) : Calls Try.prog 58 #[.slice A k c] w fun e w' =>
    e = .returned (.func (.func 75) #[] #[.pointer (some ⟨w.heap.size, 0, none⟩)]) ∧ w' = w.alloc (.cells #[.slice A k c] 90) := by
  go_enter Try.func58, Try.ntmps58
  go_wp2_with fail
  go_ret
  exact ⟨rfl, rfl⟩


set_option maxHeartbeats 1000000 in
theorem backI_list (zs : List Nat) (A : Option Addr) (c n b : Nat) (w : World) (hn : 1 ≤ n) (hlen : zs.length ≤ 1000000) (hb : IsBlk w b 90 #[.slice A zs.length c]) (hs : SliceI w A zs) :
    SeqList Fence.wide n Try.prog 75 #[.pointer (some ⟨b, 0, none⟩)] (fun x : Nat × Nat => #[.int .i64 x.1, .int .i64 x.2]) (fun _ => False) (KpB b A) (backOf zs) w := by
  intro l J Jx W hW hJ hJx hY h0
  refine callsIn_of_wp Try.func75 rfl trivial ?_ rfl
  have hB1 := hb.below hW hb.lt
  have hS1 := hs.after hW
  simp only [Try.ntmps75, List.size_toArray, List.length_cons, List.length_nil, Nat.reduceAdd, Nat.reduceSub, Array.replicate_succ, Array.replicate_zero, List.push_toArray, List.append_toArray, List.nil_append, List.cons_append]
  clear hb hs hW
  have c0 := hB1.cell 0
  simp at c0
  gi_wp2
  gi_loopw [3] (fun v wr => ∃ k : Nat, k ≤ zs.length ∧ v = .int .i64 ((zs.length : Int) - 1 - k) ∧ J k wr ∧ SliceI wr A zs ∧ IsBlk wr b 90 #[.slice A zs.length c]) (fun v _ => (intOf v + 1).toNat)
  case atStart => exact ⟨0, by omega, by simp, h0, hS1, hB1⟩
  case round =>
    obtain ⟨k, hk, rfl, hJk, hSk, hBk⟩ := hrel
    clear c0
    by_cases hlt : k < zs.length
    · obtain ⟨m, hm⟩ : ∃ m : Nat, m = zs.length - 1 - k := ⟨_, rfl⟩
      have em : (zs.length : Int) - 1 - k = (m : Nat) := by omega
      have hml : m < zs.length := by omega
      obtain ⟨g, rfl, hg, hc⟩ := hSk m hml
      have hx := backOf_at hlt
      rw [← hm] at hx
      obtain ⟨fn, tmps, assign, body, hy, hR⟩ := hY k _ wr hx hJk
      have hz : zs[m]? = some (zs.getD m 0) := by simp [hml]
      rw [hz] at hc
      have cb := hBk.cell 0
      have hS := Lib.hid hSk; have hB := Lib.hid hBk; have HM := Lib.hid hm
      clear hSk hS1 hB1 hBk hx hz hm
      rw [em]
      clear em
      generalize zs.getD m 0 = z at *
      have m0 : (0 : Int) ≤ m := by omega
      have m1 : (m : Int) < zs.length := by omega
      simp only [Option.map_some] at hc
      simp at cb
      gi_wp2
      refine hR.mono ?_
      rintro e W3 (⟨rfl, hJ3, hk3⟩ | ⟨rfl, hJx3⟩)
      · have hS3 := Lib.hid (hS.out.kept hk3.1)
        have hB3 : Hid (IsBlk W3 b 90 #[.slice (some ⟨g, 0, none⟩) zs.length c]) := hk3.2.trans hB.out
        gi_wp2
        have := HM.out
        exact ⟨⟨k + 1, by omega, by congr 1 <;> omega, hJ3, hS3.out, hB3.out⟩, by simp [intOf]⟩
      · gi_wp2
        refine bodyPost_ret (results_none rfl _ _ _) rfl ?_
        exact ⟨⟨_, rfl⟩, .inr ⟨k + 1, by rw [backOf_len]; omega, hJx3⟩⟩
    · obtain rfl : k = zs.length := by omega
      rw [show (zs.length : Int) - 1 - (zs.length : Nat) = -1 from by omega]
      gi_wp2
      go_end0
      exact ⟨⟨_, rfl⟩, .inl (by rw [backOf_len]; exact hJk)⟩

end Go.Proofs.Ytapdhmaeglafjaa
