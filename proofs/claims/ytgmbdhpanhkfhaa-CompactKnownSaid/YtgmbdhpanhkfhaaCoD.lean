/- The law that unlike numbers have unlike forms. -/
import Derived.Test.YtgmbdhpanhkfhaaCoC
import Derived.Test.YtgmbdhpanhkfhaaSeq
namespace Go.Proofs.Ytgmbdhpanhkfhaa
open Go.RowKit Go.Lib

theorem form_head (n : Nat) : ∃ F r, cform n = F :: r ∧ cwidth F.toNat + 1 = csize n := by
  by_cases h0 : n < 253
  · have e2 : cform n = [UInt8.ofNat n] := by unfold cform; rw [if_pos h0]
    have e3 : csize n = 1 := by unfold csize; rw [if_pos h0]
    have eb : (UInt8.ofNat n).toNat = n := by simp; omega
    refine ⟨_, _, e2, ?_⟩
    rw [eb, e3]
    unfold cwidth
    rw [if_neg (by omega), if_neg (by omega), if_neg (by omega)]
  · obtain ⟨W, F, e1, e2, hcase⟩ := cform_wide h0
    refine ⟨_, _, e1, ?_⟩
    rw [e2]
    rcases hcase with ⟨rfl, rfl, _⟩ | ⟨rfl, rfl, _⟩ | ⟨rfl, rfl, _⟩ <;> rfl
theorem form_inj {a b : Nat} (ha : a < 2 ^ 64) (hb : b < 2 ^ 64) (h : cform a = cform b) : a = b := by
  have hs : csize a = csize b := by rw [← cform_length, ← cform_length, h]
  by_cases h0 : a < 253
  · have e2 : cform a = [UInt8.ofNat a] := by unfold cform; rw [if_pos h0]
    have e3 : csize a = 1 := by unfold csize; rw [if_pos h0]
    have h1 : b < 253 := by
      rcases Nat.lt_or_ge b 253 with h2 | h2
      · exact h2
      · obtain ⟨W, F, _, e4, hcase⟩ := cform_wide (n := b) (by omega)
        omega
    have e4 : cform b = [UInt8.ofNat b] := by unfold cform; rw [if_pos h1]
    rw [e2, e4] at h
    injection h with h _
    have h3 := congrArg UInt8.toNat h
    simp at h3
    omega
  · obtain ⟨W, F, e1, e2, hcase⟩ := cform_wide h0
    have h1 : ¬ b < 253 := by
      intro h2
      have e3 : csize b = 1 := by unfold csize; rw [if_pos h2]
      omega
    obtain ⟨V, G, e3, e4, hcase2⟩ := cform_wide h1
    have hWV : W = V := by omega
    subst hWV
    rw [e1, e3] at h
    injection h with _ h
    have lt : ∀ n, n < 2 ^ 64 → ((W = 2 ∧ n < 65536) ∨ (W = 4 ∧ n < 4294967296) ∨ W = 8) → n < 2 ^ (8 * W) := by
      intro n hn hc
      rcases hc with ⟨rfl, hq⟩ | ⟨rfl, hq⟩ | rfl
      · exact Nat.lt_of_lt_of_le hq (by decide)
      · exact Nat.lt_of_lt_of_le hq (by decide)
      · exact hn
    rw [← valB_digs W a (lt a ha (by omega)), ← valB_digs W b (lt b hb (by omega)), h]
theorem form_apart {a b n : Nat} (ha : a < 2 ^ 64) (hb : b < 2 ^ 64) (hn : n = min (csize a) (csize b)) : ((cform a).take n == (cform b).take n) = decide (a = b) := by
  by_cases h : a = b
  · subst h; simp
  · rw [decide_eq_false h]
    cases hc : ((cform a).take n == (cform b).take n)
    · rfl
    · exfalso
      have he : (cform a).take n = (cform b).take n := by simpa using hc
      obtain ⟨F, r, e1, e2⟩ := form_head a
      obtain ⟨G, s, e3, e4⟩ := form_head b
      have hp1 := csize_pos a
      have hp2 := csize_pos b
      obtain ⟨m, rfl⟩ : ∃ m, n = m + 1 := ⟨n - 1, by omega⟩
      have hFG : F = G := by
        rw [e1, e3] at he
        simp at he
        exact he.1
      have hs : csize a = csize b := by rw [← e2, ← e4, hFG]
      have l1 := cform_length a
      have l2 := cform_length b
      rw [List.take_of_length_le (by omega), List.take_of_length_le (by omega)] at he
      exact h (form_inj ha hb he)
theorem csize_mono {a b : Nat} (h : a ≤ b) : csize a ≤ csize b := by
  unfold csize
  repeat' split
  all_goals omega

set_option maxRecDepth 100000 in
set_option maxHeartbeats 8000000 in
theorem apart_walk (a b : Nat) (w : World) (ha : a < 2 ^ 64) (hb : b < 2 ^ 64) : Calls Try.prog 3 #[.int .u64 a, .int .u64 b] w (BRet (.bool true) w) := by
  have C1 := Lib.hid (fun w' => cput_any none 0 [] a w' (fun _ => ⟨rfl, rfl⟩) (Rd.nil _ _) (by decide))
  have C2 := Lib.hid (fun w' => cput_any none 0 [] b w' (fun _ => ⟨rfl, rfl⟩) (Rd.nil _ _) (by decide))
  have C3 := Lib.hid (size_any a)
  have AW := Lib.hid works_any
  obtain ⟨n, hn⟩ : ∃ n, n = min (csize a) (csize b) := ⟨_, rfl⟩
  have hap := form_apart ha hb hn
  have l1 := cform_length a
  have l2 := cform_length b
  have hc1 := csize_le a
  have hc2 := csize_le b
  have hcmp : (((a : Int) < b ∧ ¬ (b : Int) < a) ∧ ((csize a : Nat) : Int) ≤ ((csize b : Nat) : Int) ∧ n = csize a) ∨ ((¬ (a : Int) < b ∧ ¬ (b : Int) < a) ∧ (((csize a : Nat) : Int) ≤ ((csize b : Nat) : Int) ∧ ((csize b : Nat) : Int) ≤ ((csize a : Nat) : Int)) ∧ n = csize a) ∨
      ((¬ (a : Int) < b ∧ (b : Int) < a) ∧ (((csize a : Nat) : Int) ≤ ((csize b : Nat) : Int) ∧ ((csize b : Nat) : Int) ≤ ((csize a : Nat) : Int)) ∧ n = csize a) ∨ ((¬ (a : Int) < b ∧ (b : Int) < a) ∧ (((csize b : Nat) : Int) < ((csize a : Nat) : Int)) ∧ n = csize b) := by
    rcases Nat.lt_trichotomy a b with h | h | h
    · have := csize_mono (a := a) (b := b) (by omega)
      exact .inl ⟨by omega, by omega, by omega⟩
    · subst h
      exact .inr (.inl ⟨by omega, by omega, by omega⟩)
    · have := csize_mono (a := b) (b := a) (by omega)
      by_cases h2 : csize a ≤ csize b
      · exact .inr (.inr (.inl ⟨by omega, by omega, by omega⟩))
      · exact .inr (.inr (.inr ⟨by omega, by omega, by omega⟩))
  have hn1 : n ≤ csize a := by omega
  have hn2 : n ≤ csize b := by omega
  generalize hP : cform a = P at *
  generalize hQ : cform b = Q at *
  generalize csize a = sa at *
  generalize csize b = sb at *
  have L1 := Lib.hid l1
  have L2 := Lib.hid l2
  simp only [List.nil_append] at C1 C2
  clear hP hQ l1 l2 hn
  have hways : (((P.take n == Q.take n) = true ∧ (((a : Nat) : Int) == b) = true) ∨ ((P.take n == Q.take n) = false ∧ (((a : Nat) : Int) == b) = false)) := by
    by_cases h : a = b
    · exact .inl ⟨by rw [hap, decide_eq_true h], by simp [h]⟩
    · exact .inr ⟨by rw [hap, decide_eq_false h], by simp; omega⟩
  have HW := Lib.hid hways
  clear hap hways
  rcases hcmp with ⟨⟨t1, t2⟩, t3, t4⟩ | ⟨⟨t1, t2⟩, ⟨t3, t5⟩, t4⟩ | ⟨⟨t1, t2⟩, ⟨t3, t5⟩, t4⟩ | ⟨⟨t1, t2⟩, t3, t4⟩
  all_goals
    have H4 := Lib.hid t4
    clear t4
    go_enter Try.func3, Try.ntmps3
    go_wp2_with fail
    refine (C1.out _).mono ?_
    rintro e w1 ⟨A1, c1, rfl, hown1, _, hb1⟩
    rw [L1.out] at hown1 ⊢
    have HO1 := Lib.hid hown1
    have HB1 := Lib.hid hb1
    clear hown1 hb1
    go_wp2_with fail
    refine (C2.out _).mono ?_
    rintro e w2 ⟨A2, c2, rfl, hown2, _, hb2⟩
    rw [L2.out] at hown2 ⊢
    have HO2 := Lib.hid hown2
    have HB2 := Lib.hid (bel_on HB1.out hb2)
    have HO1' := Lib.hid (HO1.out.after hb2)
    clear hown2 hb2
    go_wp2_with fail
    have K1 := Lib.hid (fun w' (h : Rd w' A1 P) => run_str (n := n) (c := c1) (h.take n) (by rw [List.length_take, L1.out]; omega))
    have K2 := Lib.hid (fun w' (h : Rd w' A2 Q) => run_str (n := n) (c := c2) (h.take n) (by rw [List.length_take, L2.out]; omega))
    refine wp_region_seq (S := fun w' => Rd w' A1 P ∧ Rd w' A2 Q ∧ Below w.heap.size w w') (by kernel_rfl) (by kernel_rfl) ⟨HO1'.out.rd.drew, HO2.out.rd.drew, HB2.out.drew⟩ ?_
    have HST := Lib.hid (show ∀ w1' w2', (Rd w1' A1 P ∧ Rd w1' A2 Q ∧ Below w.heap.size w w1') → Below w1'.heap.size w1' w2' → (Rd w2' A1 P ∧ Rd w2' A2 Q ∧ Below w.heap.size w w2') from fun _ _ h hb => ⟨h.1.after hb, h.2.1.after hb, bel_on h.2.2 hb⟩)
    have hcap1 : sa ≤ c1 := by
      rcases HO1'.out.2 with ⟨_, h0⟩ | ⟨g, cap, cur, hv, _, _, hle, _⟩
      · have := L1.out; omega
      · injection hv with h1 h2 h3; have := L1.out; omega
    have hcap2 : sb ≤ c2 := by
      rcases HO2.out.2 with ⟨_, h0⟩ | ⟨g, cap, cur, hv, _, _, hle, _⟩
      · have := L2.out; omega
      · injection hv with h1 h2 h3; have := L2.out; omega
    have hcn1 : n ≤ c1 := by omega
    have hcn2 : n ≤ c2 := by omega
    have hn := H4.out
    subst hn
    clear H4 C1 C2 HO1 HB1 HB2 HO2 HO1'
    rcases HW.out with ⟨q1, q2⟩ | ⟨q1, q2⟩
    all_goals
      clear HW
      repeat (first
        | (refine SeqS.skip ?_ ?_; rfl; (try simp only [Act.put, List.setIfInBounds_toArray, List.set_cons_zero, List.set_cons_succ]))
        | (refine SeqS.take (v := ?_) ?_ ?_ ?_; rotate_left; rfl; (intro w hS; have s1 := K1.out w hS.1; have s2 := K2.out w hS.2.1; go_simp; with_reducible rfl); (try simp only [Act.put, List.setIfInBounds_toArray, List.set_cons_zero, List.set_cons_succ]))
        | (refine SeqS.call (v := ?_) (f := ?_) (args := ?_) ?_ ?_ ?_ ?_; rotate_left 3; rfl; (intro w hS; have s1 := K1.out w hS.1; have s2 := K2.out w hS.2.1; go_simp; (first | with_reducible rfl | (refine ⟨?_, ?_⟩ <;> with_reducible rfl))); (intro w hS; first | ((with_reducible refine (AW.out _).mono ?_); rintro e w' ⟨rfl, hb⟩; refine ⟨?_, HST.out _ _ hS hb⟩; with_reducible rfl)); (try simp only [Act.put, List.setIfInBounds_toArray, List.set_cons_zero, List.set_cons_succ])))
      refine SeqS.done ?_
      rintro wz ⟨_, _, hbz⟩
      have HBZ := Lib.hid hbz
      clear hbz HST K1 K2 q1 q2
      go_wp2_with fail
      refine (C3.out _).mono ?_
      rintro e w' ⟨rfl, rfl⟩
      go_wp2_with fail
      refine (AW.out _).mono ?_
      rintro e w3 ⟨rfl, hb3⟩
      go_wp2_with fail
      go_ret
      exact ⟨rfl, bel_on HBZ.out hb3⟩

theorem law_CompactApart {H : Type} {enc : TypeId × Value → H} (W : World) (base : Nat) (v0 v1 : Value) (d0 d1 : DataW H) (p0 p1 : List MemPlace)
    (h0 : DataW.Trod enc Try.prog W 0 (fun _ => true) true 22 v0 d0 p0) (h1 : DataW.Trod enc Try.prog W 0 (fun _ => true) true 22 v1 d1 p1)
    (o0 : Value.okWide Try.prog W .any base 22 v0) (o1 : Value.okWide Try.prog W .any base 22 v1) :
    Calls Try.prog 3 #[v0, v1] W fun e w' => e = .returned (.bool true) ∧ Below W.heap.size W w' := by
  obtain ⟨a', rfl, wa⟩ := in_int Try.underlying22 h0 o0
  obtain ⟨b', rfl, wb⟩ := in_int Try.underlying22 h1 o1
  have ha := wf_u64 wa
  have hb := wf_u64 wb
  obtain ⟨a, rfl⟩ := Int.eq_ofNat_of_zero_le ha.1
  obtain ⟨b, rfl⟩ := Int.eq_ofNat_of_zero_le hb.1
  have e : (2 : Nat) ^ 64 = 18446744073709551616 := by decide
  exact apart_walk a b W (by omega) (by omega)
end Go.Proofs.Ytgmbdhpanhkfhaa
