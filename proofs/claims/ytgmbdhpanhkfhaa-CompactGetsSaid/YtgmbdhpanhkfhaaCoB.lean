/- Compact forms, continued: texts; the reference. -/
import Derived.Test.YtgmbdhpanhkfhaaCoA
namespace Go.Proofs.Ytgmbdhpanhkfhaa
open Go.RowKit Go.Lib

theorem Own.lit {w : World} {g : Nat} (l : List UInt8) (hg : w.heap.size = g) (hl : l.length ≤ 100) : Own (w.alloc (.cells (byteCells l).toArray 5)) g (.slice (some ⟨g, 0, none⟩) l.length l.length) l := by
  subst hg
  refine ⟨by rw [byteCells_length]; omega, .inr ⟨w.heap.size, l.length, (byteCells l).toArray, rfl, Nat.le_refl _, ?_, Nat.le_refl _, by simp only [maxLen]; omega, by simp [byteCells_length], ?_⟩⟩
  · show (w.heap.push _)[w.heap.size]? = _
    simp
  · rw [List.take_of_length_le (by simp [byteCells_length])]

set_option maxHeartbeats 2000000 in
theorem ctext_any (A B : Option Addr) (c d : Nat) (l t : List UInt8) (w : World) (h0 : A = none → l.length = 0 ∧ c = 0) (hr : Rd w A l) (hl : l.length ≤ 100000) (hs : Rd w B t) (ht : t.length ≤ 100000) :
    Calls Try.prog 13 #[.slice A l.length c, .slice B t.length d] w (BytesRet (l ++ cform t.length ++ t) w) := by
  have C1 := Lib.hid (cput_any A c l t.length w h0 hr hl)
  have HS := Lib.hid hs
  have HL := Lib.hid hl
  have HT := Lib.hid ht
  have hc : IntKind.u64.wrap ((t.length : Nat) : Int) = ((t.length : Nat) : Int) := IntWalk.u64_in _ (by omega)
  have HCF := Lib.hid (show (l ++ cform t.length).length ≤ 100009 from by rw [List.length_append, cform_length]; have := csize_le t.length; omega)
  clear h0 hr hl hs ht
  go_enter Try.func13, Try.ntmps13
  go_wp2_with fail
  refine C1.out.mono ?_
  rintro e w1 ⟨A1, c1, rfl, hown, hnn, hb1⟩
  have HO := Lib.hid hown
  have HB := Lib.hid hb1
  clear hown hnn hb1
  generalize l ++ cform t.length = L at *
  go_wp2_with (at_builtin; refine wpList_append_rd rfl (.tmp 9) (.tmp 10) rfl w.heap.size _ L rfl HO.out B t.length d t rfl rfl (HS.out.after HB.out) (by have := HCF.out; have := HT.out; omega) HB.out.size (L.length + t.length) rfl (L ++ t) rfl ?_; intro A2 c2 w2 hown2 hg2 hnn2)
  go_ret
  exact BytesRet.mk (by rw [List.length_append]) hown2 hnn2 (bel_grown HB.out HB.out.size HO.out (Nat.le_refl _) hg2)

set_option maxHeartbeats 4000000 in
theorem form_any (n : Nat) (w : World) (hn64 : n < 2 ^ 64) : Calls Try.prog 26 #[.int .u64 n] w (BytesRet (cform n) w) := by
  by_cases hn : n < 253
  · have e2 : cform n = [UInt8.ofNat n] := by unfold cform; rw [if_pos hn]
    rw [e2]
    have hv := small_byte n
    have t1 : (n : Int) < 253 := by omega
    clear e2 hn hn64
    generalize UInt8.ofNat n = b at *
    go_enter Try.func26, Try.ntmps26
    go_wp2_with fail
    go_ret
    exact BytesRet.mk (l := [b]) rfl (Own.lit [b] rfl (by simp)) (fun h => by cases h) ((Below.refl _ _).alloc (Nat.le_refl _) _)
  · obtain ⟨W, F, e1, e2, hcase⟩ := cform_wide hn
    rw [e1]
    have hW8 : W ≤ 8 := by omega
    have C := Lib.hid (fun w' => digits_any W n w' hW8 hn64)
    have t1 : ¬ (n : Int) < 253 := by omega
    have hfin : ∀ (e3 : W = 2 ∨ W = 4 ∨ W = 8), True := fun _ => trivial
    rcases hcase with ⟨rfl, rfl, h1⟩ | ⟨rfl, rfl, h1, h2⟩ | ⟨rfl, rfl, h1⟩
    · have t2 : (n : Int) < 65536 := by omega
      clear hfin e1 e2 hn hn64 hW8 h1
      go_enter Try.func26, Try.ntmps26
      go_wp2_with fail
      refine (C.out _).mono ?_
      rintro e w1 ⟨A1, c1, rfl, hown, hnn, hb1⟩
      have HO := Lib.hid hown
      have HB := Lib.hid hb1
      rw [digs_length] at HO ⊢
      clear hown hnn hb1
      go_wp2_with (at_builtin; refine wpList_append_rd rfl (.tmp 25) (.tmp 26) rfl w1.heap.size _ [253] rfl (Own.lit [253] rfl (by simp)) A1 2 c1 (digs 2 n) rfl (by rw [digs_length]) (HO.out.rd.alloc _) (by rw [digs_length]; simp) (by simp) 3 (by rw [digs_length]; rfl) (253 :: digs 2 n) rfl ?_; intro A2 c2 w2 hown2 hg2 hnn2)
      go_ret
      exact BytesRet.mk (by rw [List.length_cons, digs_length]) (hown2.low HB.out.size) hnn2 (bel_grown (HB.out.alloc HB.out.size _) (by have := HB.out.size; simp; omega) (Own.lit [253] rfl (by simp)) HB.out.size hg2)
    · have t2 : ¬ (n : Int) < 65536 := by omega
      have t3 : (n : Int) < 4294967296 := by omega
      clear hfin e1 e2 hn hn64 hW8 h1 h2
      go_enter Try.func26, Try.ntmps26
      go_wp2_with fail
      refine (C.out _).mono ?_
      rintro e w1 ⟨A1, c1, rfl, hown, hnn, hb1⟩
      have HO := Lib.hid hown
      have HB := Lib.hid hb1
      rw [digs_length] at HO ⊢
      clear hown hnn hb1
      go_wp2_with (at_builtin; refine wpList_append_rd rfl (.tmp 25) (.tmp 26) rfl w1.heap.size _ [254] rfl (Own.lit [254] rfl (by simp)) A1 4 c1 (digs 4 n) rfl (by rw [digs_length]) (HO.out.rd.alloc _) (by rw [digs_length]; simp) (by simp) 5 (by rw [digs_length]; rfl) (254 :: digs 4 n) rfl ?_; intro A2 c2 w2 hown2 hg2 hnn2)
      go_ret
      exact BytesRet.mk (by rw [List.length_cons, digs_length]) (hown2.low HB.out.size) hnn2 (bel_grown (HB.out.alloc HB.out.size _) (by have := HB.out.size; simp; omega) (Own.lit [254] rfl (by simp)) HB.out.size hg2)
    · have t2 : ¬ (n : Int) < 65536 := by omega
      have t3 : ¬ (n : Int) < 4294967296 := by omega
      clear hfin e1 e2 hn hn64 hW8 h1
      go_enter Try.func26, Try.ntmps26
      go_wp2_with fail
      refine (C.out _).mono ?_
      rintro e w1 ⟨A1, c1, rfl, hown, hnn, hb1⟩
      have HO := Lib.hid hown
      have HB := Lib.hid hb1
      rw [digs_length] at HO ⊢
      clear hown hnn hb1
      go_wp2_with (at_builtin; refine wpList_append_rd rfl (.tmp 25) (.tmp 26) rfl w1.heap.size _ [255] rfl (Own.lit [255] rfl (by simp)) A1 8 c1 (digs 8 n) rfl (by rw [digs_length]) (HO.out.rd.alloc _) (by rw [digs_length]; simp) (by simp) 9 (by rw [digs_length]; rfl) (255 :: digs 8 n) rfl ?_; intro A2 c2 w2 hown2 hg2 hnn2)
      go_ret
      exact BytesRet.mk (by rw [List.length_cons, digs_length]) (hown2.low HB.out.size) hnn2 (bel_grown (HB.out.alloc HB.out.size _) (by have := HB.out.size; simp; omega) (Own.lit [255] rfl (by simp)) HB.out.size hg2)

set_option maxHeartbeats 1000000 in
theorem refSize_any (n : Nat) (w : World) (hn : n < 2 ^ 64) : Calls Try.prog 16 #[.int .u64 n] w (BRet (.int .i64 (csize n : Nat)) w) := by
  have C := Lib.hid (fun w' => form_any n w' hn)
  clear hn
  go_enter Try.func16, Try.ntmps16
  go_wp2_with fail
  refine (C.out _).mono ?_
  rintro e w1 ⟨A1, c1, rfl, hown, hnn, hb1⟩
  have HB := Lib.hid hb1
  rw [cform_length]
  clear hown hnn hb1
  go_wp2_with fail
  go_ret
  exact ⟨rfl, HB.out⟩

set_option maxHeartbeats 2000000 in
theorem refCput_any (A : Option Addr) (c : Nat) (l : List UInt8) (n : Nat) (w : World) (hr : Rd w A l) (hl : l.length ≤ 100000) (hn : n < 2 ^ 64) :
    Calls Try.prog 14 #[.slice A l.length c, .int .u64 n] w (BytesRet (l ++ cform n) w) := by
  have C := Lib.hid (fun w' => form_any n w' hn)
  have HR := Lib.hid hr
  have HL := Lib.hid hl
  have HF := Lib.hid (show (cform n).length ≤ 9 from by rw [cform_length]; exact csize_le n)
  clear hr hl hn
  generalize cform n = F at *
  go_enter Try.func14, Try.ntmps14
  go_wp2_with (at_builtin; refine wpList_append_rd rfl (.tmp 6) (.tmp 7) rfl w.heap.size _ [] rfl (Own.nil _ _) A l.length c l rfl rfl HR.out (by have := HL.out; simp; omega) (Nat.le_refl _) l.length (by simp) l (by simp) ?_; intro A1 c1 w1 hown1 hg1 hnn1)
  have hb1 := bel_grown (Below.refl w.heap.size w) (Nat.le_refl _) (Own.nil w w.heap.size) (Nat.le_refl _) hg1
  have HO := Lib.hid hown1
  have HB := Lib.hid hb1
  clear hown1 hg1 hnn1 hb1
  refine (C.out _).mono ?_
  rintro e w2 ⟨A2, c2, rfl, hown2, hnn2, hb2⟩
  have HO2 := Lib.hid (HO.out.after hb2)
  have HX2 := Lib.hid hown2
  have HB2 := Lib.hid (bel_on HB.out hb2)
  clear hown2 hnn2 hb2
  go_wp2_with (at_builtin; refine wpList_append_rd rfl (.tmp 9) (.tmp 11) rfl w.heap.size _ l rfl HO2.out A2 F.length c2 F rfl rfl HX2.out.rd (by have := HL.out; have := HF.out; omega) HB2.out.size (l.length + F.length) rfl (l ++ F) rfl ?_; intro A3 c3 w3 hown3 hg3 hnn3)
  go_ret
  exact BytesRet.mk (by rw [List.length_append]) hown3 hnn3 (bel_grown HB2.out HB2.out.size HO2.out (Nat.le_refl _) hg3)

set_option maxHeartbeats 2000000 in
theorem refCtext_any (A B : Option Addr) (c d : Nat) (l t : List UInt8) (w : World) (hr : Rd w A l) (hl : l.length ≤ 100000) (hs : Rd w B t) (ht : t.length ≤ 100000) :
    Calls Try.prog 15 #[.slice A l.length c, .slice B t.length d] w (BytesRet (l ++ cform t.length ++ t) w) := by
  have C1 := Lib.hid (refCput_any A c l t.length w hr hl (Nat.lt_of_le_of_lt ht (by decide)))
  have HS := Lib.hid hs
  have HL := Lib.hid hl
  have HT := Lib.hid ht
  have hc : IntKind.u64.wrap ((t.length : Nat) : Int) = ((t.length : Nat) : Int) := IntWalk.u64_in _ (by omega)
  have HCF := Lib.hid (show (l ++ cform t.length).length ≤ 100009 from by rw [List.length_append, cform_length]; have := csize_le t.length; omega)
  clear hr hl hs ht
  go_enter Try.func15, Try.ntmps15
  go_wp2_with fail
  refine C1.out.mono ?_
  rintro e w1 ⟨A1, c1, rfl, hown, hnn, hb1⟩
  have HO := Lib.hid hown
  have HB := Lib.hid hb1
  clear hown hnn hb1
  generalize l ++ cform t.length = L at *
  go_wp2_with (at_builtin; refine wpList_append_rd rfl (.tmp 11) (.tmp 12) rfl w.heap.size _ L rfl HO.out B t.length d t rfl rfl (HS.out.after HB.out) (by have := HCF.out; have := HT.out; omega) HB.out.size (L.length + t.length) rfl (L ++ t) rfl ?_; intro A2 c2 w2 hown2 hg2 hnn2)
  go_ret
  exact BytesRet.mk (by rw [List.length_append]) hown2 hnn2 (bel_grown HB.out HB.out.size HO.out (Nat.le_refl _) hg2)
end Go.Proofs.Ytgmbdhpanhkfhaa
