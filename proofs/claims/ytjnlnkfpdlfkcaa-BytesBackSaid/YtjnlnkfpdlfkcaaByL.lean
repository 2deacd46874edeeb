/- The law of Put. -/
import Derived.Test.YtjnlnkfpdlfkcaaByK
namespace Go.Proofs.Ytjnlnkfpdlfkcaa
open Go.RowKit Go.Lib Go.ChangeShapes Go.WideShapes

/-- A slice of bytes that came in. -/
theorem in_bytes {H : Type} {enc : TypeId × Value → H} {W : World} {v : Value} {d : DataW H} {p : List MemPlace} {base : Nat} (h : DataW.Trod enc Try.prog W 0 (fun _ => true) true 22 v d p) (o : Value.okWide Try.prog W .any base 22 v) :
    ∃ (A : Option Addr) (c : Nat) (l : List UInt8), v = .slice A l.length c ∧ (A = none → l.length = 0 ∧ c = 0) ∧ Rd W A l ∧ l.length ≤ c ∧ c ≤ maxLen := by
  obtain ⟨a1, len, cap, rfl⟩ := okWide_slice Try.underlying22 o
  obtain ⟨fuel, hf⟩ := h
  rcases open_ints Try.underlying22 Try.underlying5 (by kernel_rfl) hf with ⟨hcs, hx⟩ | ⟨a, len', cap', zs, hcs, _, hl, hm, hz, hx, hcell, hwz⟩
  · simp [Value.cells] at hcs
    obtain ⟨rfl, rfl, rfl⟩ := hcs
    exact ⟨none, 0, [], rfl, fun _ => ⟨rfl, rfl⟩, Rd.nil _ _, Nat.le_refl _, Nat.zero_le _⟩
  · simp [Value.cells] at hcs
    obtain ⟨rfl, rfl, rfl⟩ := hcs
    simp only [if_true] at hz
    have hlen : ((zs.take len).map fun n => UInt8.ofNat n.toNat).length = len := by simp; omega
    refine ⟨some a, cap, (zs.take len).map fun n => UInt8.ofNat n.toNat, by rw [hlen], (fun h => by cases h), fun hpos => ?_, by rw [hlen]; exact hl, hm⟩
    refine ⟨a, rfl, ?_, fun j hj => ?_⟩
    · have h0 := hcell 0 (by omega)
      have := World.block_lt_of_cell? _ _ h0
      rwa [addr_block] at this
    · rw [hlen] at hj
      rw [hcell j (by omega)]
      have hb := range_u8 hwz j
      simp only [List.getElem_map, List.getElem_take]
      have e : zs.getD j 0 = zs[j]'(by omega) := by simp [List.getD, List.getElem?_eq_getElem (show j < zs.length by omega)]
      rw [List.getD_eq_getElem?_getD] at e
      rw [e] at hb
      rw [List.getD_eq_getElem?_getD, e]
      congr 2
      simp only [UInt8.toNat_ofNat']
      omega

theorem xor_byte (b : UInt8) : bits .xor .u8 ((b.toNat : Nat) : Int) 255 = (((b ^^^ 255).toNat : Nat) : Int) := by
  show IntKind.u8.wrap ((BitVec.ofInt 8 ((b.toNat : Nat) : Int) ^^^ BitVec.ofInt 8 (255 : Int)).toNat : Int) = _
  have a2 : BitVec.ofInt 8 (255 : Int) = BitVec.ofNat 8 255 := by decide
  rw [BitVec.ofInt_natCast, a2, BitVec.toNat_xor, BitVec.toNat_ofNat, BitVec.toNat_ofNat, Nat.mod_eq_of_lt b.toNat_lt]
  have h : b.toNat ^^^ 255 < 2 ^ 8 := Nat.xor_lt_two_pow b.toNat_lt (by decide)
  rw [UInt8.toNat_xor, show (255 : UInt8).toNat = 255 from rfl, show 255 % 2 ^ 8 = 255 from rfl]
  generalize b.toNat ^^^ 255 = y at h
  simp only [IntKind.wrap, IntKind.bits, IntKind.signed]
  simp
  omega

set_option maxRecDepth 100000 in
set_option maxHeartbeats 4000000 in
theorem puts_big (A : Option Addr) (c : Nat) (l : List UInt8) (x : Int) (n : Nat) (w : World) (hl : ¬ l.length ≤ 5000) :
    Calls Try.prog 3 #[.slice A l.length c, .int .i64 x, .int .u64 n] w (BRet (.bool true) w) := by
  have h5 : (5000 : Int) < l.length := by omega
  have C := Lib.hid awake_any
  clear hl
  go_enter Try.func3, Try.ntmps3
  go_wp2_with fail
  refine (C.out _).mono ?_
  rintro e w1 ⟨rfl, hb⟩
  go_wp2_with fail
  go_ret
  exact ⟨rfl, hb⟩

set_option maxRecDepth 100000 in
set_option maxHeartbeats 8000000 in
theorem puts_no (A : Option Addr) (c : Nat) (l : List UInt8) (x : Int) (n : Nat) (w : World) (hl : l.length ≤ 5000) (hr : Rd w A l) (hn : n < 2 ^ 64) (h : ¬ (widthB x = true ∧ n < 2 ^ (8 * x.toNat))) :
    Calls Try.prog 3 #[.slice A l.length c, .int .i64 x, .int .u64 n] w (BRet (.bool true) w) := by
  have h5 : ¬ (5000 : Int) < l.length := by omega
  have C := Lib.hid awake_any
  have C1 := Lib.hid (fun A m c w => put_no A m c x n w hn h)
  have C2 := Lib.hid (fun A m c w => refPut_no A m c x n w hn h)
  have HR := Lib.hid hr
  have HL := Lib.hid hl
  clear hr hl hn h
  go_enter Try.func3, Try.ntmps3
  go_wp2_with (at_builtin; refine wpList_append_rd rfl (.tmp 17) (.tmp 18) rfl w.heap.size _ [] rfl (Own.empty w) A l.length c l rfl rfl (HR.out.alloc _) (by have := HL.out; simp; omega) (by simp) l.length (by simp) l (by simp) ?_; intro A1 c1 w1 hown1 hg1 hnn1)
  have hb1 := bel_grown ((Below.refl w.heap.size w).alloc (Nat.le_refl _) (.cells #[] 5)) (by simp) (Own.empty w) (Nat.le_refl _) hg1
  have HO := Lib.hid hown1
  have HB := Lib.hid hb1
  clear hown1 hg1 hnn1 hb1
  refine (C1.out _ _ _ _).mono ?_
  rintro e w' ⟨rfl, rfl⟩
  go_wp2_with fail
  refine (C2.out _ _ _ _).mono ?_
  rintro e w2 ⟨rfl, hb2⟩
  have HO2 := Lib.hid (HO.out.after hb2)
  have HR2 := Lib.hid ((HR.out.after HB.out).after hb2)
  have HB2 := Lib.hid (bel_on HB.out hb2)
  clear hb2
  have hs0 : (convert 22 9 (.slice none 0 0)).run Try.prog w2 = .ok (.string ⟨#[]⟩) w2 := run_str (l := []) (Rd.nil _ _) rfl
  have hs1 : (convert 22 9 (.slice A1 l.length c1)).run Try.prog w2 = .ok (.string ⟨l.toArray⟩) w2 := run_str HO2.out.rd rfl
  have hs2 : (convert 22 9 (.slice A l.length c)).run Try.prog w2 = .ok (.string ⟨l.toArray⟩) w2 := run_str HR2.out rfl
  go_wp2_with fail
  refine wp_loop_rounds 1 ?_
  rw [rounds_succ]
  go_wp2_with fail
  refine (C.out _).mono ?_
  rintro e w3 ⟨rfl, hb3⟩
  go_wp2_with fail
  go_ret
  exact ⟨rfl, bel_on HB2.out hb3⟩

set_option maxRecDepth 100000 in
set_option maxHeartbeats 8000000 in
theorem puts_yes (A : Option Addr) (c : Nat) (l : List UInt8) (k n : Nat) (w : World) (hl : l.length ≤ 5000) (hr : Rd w A l) (hn : n < 2 ^ 64) (hw : k = 1 ∨ k = 2 ∨ k = 4 ∨ k = 8) (h : n < 2 ^ (8 * k)) :
    Calls Try.prog 3 #[.slice A l.length c, .int .i64 k, .int .u64 n] w (BRet (.bool true) w) := by
  have h5 : ¬ (5000 : Int) < l.length := by omega
  have C := Lib.hid awake_any
  have C1 := Lib.hid (fun A c w h0 hr => put_yes A c l k n w h0 hr (by omega) hw h)
  have C2 := Lib.hid (fun w hr => refPut_yes A c l k n w hr (by omega) hw h hn)
  have hlen : (l ++ digs k n).length ≤ 5008 := by rw [List.length_append, digs_length]; omega
  generalize l ++ digs k n = L at *
  have HR := Lib.hid hr
  have HL := Lib.hid hl
  have HLL := Lib.hid hlen
  clear hr hl hn h hw hlen
  go_enter Try.func3, Try.ntmps3
  go_wp2_with (at_builtin; refine wpList_append_rd rfl (.tmp 17) (.tmp 18) rfl w.heap.size _ [] rfl (Own.empty w) A l.length c l rfl rfl (HR.out.alloc _) (by have := HL.out; simp; omega) (by simp) l.length (by simp) l (by simp) ?_; intro A1 c1 w1 hown1 hg1 hnn1)
  have hb1 := bel_grown ((Below.refl w.heap.size w).alloc (Nat.le_refl _) (.cells #[] 5)) (by simp) (Own.empty w) (Nat.le_refl _) hg1
  have HO := Lib.hid hown1
  have HB := Lib.hid hb1
  have hzz : A1 = none → l.length = 0 := fun h => by
    rcases Nat.eq_zero_or_pos l.length with h0 | h0
    · exact h0
    · obtain ⟨ad, e, _⟩ := HO.out.rd h0
      rw [h] at e
      cases e
  have HNN := Lib.hid (show A1 = none → l.length = 0 ∧ c1 = 0 from fun h => ⟨hzz h, hnn1 h⟩)
  clear hzz
  clear hown1 hg1 hnn1 hb1
  refine (C1.out A1 c1 w1 HNN.out HO.out.rd).mono ?_
  rintro e w2 ⟨A2, c2, rfl, hown2, hnn2, hb2⟩
  have HX2 := Lib.hid hown2
  have HR2 := Lib.hid ((HR.out.after HB.out).after hb2)
  have HB2 := Lib.hid hb2
  clear hown2 hnn2 hb2
  go_wp2_with fail
  refine (C2.out _ HR2.out).mono ?_
  rintro e w3 ⟨A3, c3, rfl, hown3, hnn3, hb3⟩
  have HX3 := Lib.hid (HX2.out.after hb3)
  have HB3 := Lib.hid (bel_on HB2.out hb3)
  have hs0 : (convert 22 9 (.slice A2 L.length c2)).run Try.prog w3 = .ok (.string ⟨L.toArray⟩) w3 := run_str HX3.out.rd rfl
  have hs1 : (convert 22 9 (.slice A3 L.length c3)).run Try.prog w3 = .ok (.string ⟨L.toArray⟩) w3 := run_str hown3.rd rfl
  clear hown3 hnn3 hb3
  go_wp2_with fail
  clear hs0 hs1
  go_loopw [12] (fun i wr => ∃ (j : Nat) (L' : List UInt8), j ≤ L.length ∧ i = .int .i64 j ∧ L'.length = L.length ∧ Own wr w1.heap.size (.slice A2 L.length c2) L' ∧ Below w1.heap.size w1 wr) (fun i _ => L.length - (intOf i).toNat)
  case atStart => exact ⟨0, L, by omega, rfl, rfl, HX3.out, HB3.out⟩
  case round =>
    obtain ⟨j, L', hj, rfl, hLL, hX, hB⟩ := hrel
    by_cases hlt : j < L.length
    · have hjL : (j : Int) < L.length := by omega
      obtain ⟨g, rfl, hg, hcell, hfr, hset⟩ := hX.set (j := j) (by omega)
      have hx := xor_byte (L'[j]'(by omega))
      have hv : (((L'[j]'(by omega)).toNat : Nat) : Int) ≤ 255 := by have := (L'[j]'(by omega)).toNat_lt; omega
      have HS := Lib.hid (hset ((L'[j]'(by omega)) ^^^ 255))
      have HLX := Lib.hid (show (L'.set j ((L'[j]'(by omega)) ^^^ 255)).length = L.length from by rw [List.length_set]; exact hLL)
      have HBB := Lib.hid hB
      have hLb := HLL.out
      generalize L'.set j ((L'[j]'(by omega)) ^^^ 255) = L2 at *
      generalize ((L'[j]'(by omega)) ^^^ 255) = y at *
      generalize (L'[j]'(by omega)) = x at *
      clear hX hB hset hLL
      go_wp2_with fail
      exact ⟨⟨j + 1, L2, by omega, by go_num, HLX.out, HS.out, HBB.out.setCell hg _⟩, by simp [intOf]; omega⟩
    · obtain rfl : j = L.length := by omega
      have hs2 : (convert 22 9 (.slice A1 l.length c1)).run Try.prog wr = .ok (.string ⟨l.toArray⟩) wr := run_str (HO.out.after hB).rd rfl
      have hs3 : (convert 22 9 (.slice A l.length c)).run Try.prog wr = .ok (.string ⟨l.toArray⟩) wr := run_str ((HR.out.after HB.out).after hB) rfl
      have HBB := Lib.hid (bel_on HB.out hB)
      clear hX hB hLL hlt hj
      go_wp2_with fail
      refine (C.out _).mono ?_
      rintro e w5 ⟨rfl, hb5⟩
      go_wp2_with fail
      go_ret
      exact ⟨rfl, bel_on HBB.out hb5⟩

theorem law_BytesPuts {H : Type} {enc : TypeId × Value → H} (W : World) (base : Nat) (v0 v1 v2 : Value) (d0 d1 d2 : DataW H) (p0 p1 p2 : List MemPlace)
    (h0 : DataW.Trod enc Try.prog W 0 (fun _ => true) true 22 v0 d0 p0) (h1 : DataW.Trod enc Try.prog W 0 (fun _ => true) true 3 v1 d1 p1) (h2 : DataW.Trod enc Try.prog W 0 (fun _ => true) true 23 v2 d2 p2)
    (o0 : Value.okWide Try.prog W .any base 22 v0) (o1 : Value.okWide Try.prog W .any base 3 v1) (o2 : Value.okWide Try.prog W .any base 23 v2) :
    Calls Try.prog 3 #[v0, v1, v2] W fun e w' => e = .returned (.bool true) ∧ Below W.heap.size W w' := by
  obtain ⟨A, c, l, rfl, hz, hr, hlc, hcm⟩ := in_bytes h0 o0
  obtain ⟨x, rfl, wx⟩ := in_int Try.underlying3 h1 o1
  obtain ⟨n', rfl, wn⟩ := in_int Try.underlying23 h2 o2
  have hb := wf_u64 wn
  obtain ⟨n, rfl⟩ := Int.eq_ofNat_of_zero_le hb.1
  have hn : n < 2 ^ 64 := by have : (2 : Nat) ^ 64 = 18446744073709551616 := by decide
                             omega
  by_cases hl : l.length ≤ 5000
  · by_cases h : widthB x = true ∧ n < 2 ^ (8 * x.toNat)
    · obtain ⟨hw, hk⟩ := h
      rcases width_cases hw with rfl | rfl | rfl | rfl
      · exact puts_yes A c l 1 n W hl hr hn (by omega) hk
      · exact puts_yes A c l 2 n W hl hr hn (by omega) hk
      · exact puts_yes A c l 4 n W hl hr hn (by omega) hk
      · exact puts_yes A c l 8 n W hl hr hn (by omega) hk
    · exact puts_no A c l x n W hl hr hn h
  · exact puts_big A c l x n W hl
end Go.Proofs.Ytjnlnkfpdlfkcaa
