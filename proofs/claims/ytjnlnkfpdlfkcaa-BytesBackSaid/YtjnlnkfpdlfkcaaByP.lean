/- Numbers as bytes: the program's Put, the reference's. -/
import Derived.Test.YtjnlnkfpdlfkcaaByA
namespace Go.Proofs.Ytjnlnkfpdlfkcaa
open Go.RowKit Go.Lib

set_option maxHeartbeats 4000000 in
theorem put_yes (A : Option Addr) (c : Nat) (l : List UInt8) (k n : Nat) (w : World) (h0 : A = none → l.length = 0 ∧ c = 0) (hr : Rd w A l) (hl : l.length ≤ 100000) (hw : k = 1 ∨ k = 2 ∨ k = 4 ∨ k = 8) (hn : n < 2 ^ (8 * k)) :
    Calls Try.prog 8 #[.slice A l.length c, .int .i64 k, .int .u64 n] w (PairRet (l ++ digs k n) (.int .i64 0) w) := by
  have C1 := Lib.hid (width_any k)
  have C2 := Lib.hid (fun w' hr' => clone_any A l.length c l w' rfl h0 hr' (by omega))
  have hwb : widthB k = true := by rcases hw with rfl | rfl | rfl | rfl <;> rfl
  rw [hwb] at C1
  have t1 : k = 8 ∨ ((k : Int) < 8 ∧ IntKind.i64.wrap (8 * (k : Int)) = ((8 * k : Nat) : Int) ∧ (((n : Nat) : Int) / 2 ^ (8 * k) != 0) = false) := by
    have e2 : ((n : Nat) : Int) / 2 ^ (8 * k) = ((n / 2 ^ (8 * k) : Nat) : Int) := by
      have : (2 : Int) ^ (8 * k) = ((2 ^ (8 * k) : Nat) : Int) := by rw [Int.natCast_pow]; rfl
      rw [this]; rfl
    rcases hw with rfl | rfl | rfl | rfl
    all_goals first | exact .inl rfl | exact .inr ⟨by decide, by decide, by rw [e2, Nat.div_eq_of_lt hn]; rfl⟩
  have HR := Lib.hid hr
  have K8 : k ≤ 8 := by omega
  have hpos : (0 : Int) ≤ k := by omega
  clear hr h0 hwb hw hn
  have HL := Lib.hid hl
  have t4 : (8 : Int) ≤ k ∨ ((k : Int) < 8 ∧ IntKind.i64.wrap (8 * (k : Int)) = ((8 * k : Nat) : Int) ∧ (((n : Nat) : Int) / 2 ^ (8 * k) != 0) = false) := by
    rcases t1 with rfl | h
    · exact .inl (by decide)
    · exact .inr h
  clear t1 hl
  rcases t4 with t1 | ⟨t1, t2, t3⟩
  all_goals
    go_enter Try.func8, Try.ntmps8
    go_wp2_with fail
    refine (C1.out _).mono ?_
    rintro e w' ⟨rfl, rfl⟩
    go_wp2_with fail
    refine (C2.out _ HR.out).mono ?_
    rintro e w1 ⟨A1, c1, rfl, hown, hnn, hb1⟩
    go_wp2_with fail
    go_loopw [8, 9, 27] (fun v _ i wr => ∃ (j : Nat) (A' : Option Addr) (c' : Nat), j ≤ k ∧ i = .int .i64 j ∧ v = .slice A' (l.length + j) c' ∧ Own wr w.heap.size (.slice A' (l.length + j) c') (l ++ digs j n) ∧ (A' = none → c' = 0) ∧ Below w.heap.size w wr) (fun _ _ i _ => k - (intOf i).toNat)
    case atStart => exact ⟨0, A1, c1, by omega, rfl, rfl, by simpa [digs] using hown, hnn, hb1⟩
    case round =>
      obtain ⟨j, A', c', hj, rfl, rfl, hown', hnn', hbel⟩ := hrel
      have HO := Lib.hid hown'
      have HN := Lib.hid hnn'
      have HB := Lib.hid hbel
      clear hown' hnn' hbel hown hnn hb1
      by_cases hlt : j < k
      · have e9 : IntKind.i64.wrap (8 * (j : Int)) = ((8 * j : Nat) : Int) := IntWalk.i64_in _ (by omega)
        have e9' : 8 * (j : Int) = ((8 * j : Nat) : Int) := by omega
        have hv := byte_cut n j
        have hd := digs_succ j n
        have HD := Lib.hid hd
        have hjk : (j : Int) < k := by omega
        have hln : (l ++ digs j n).length = l.length + j := by rw [List.length_append, digs_length]
        have HLN := Lib.hid hln
        clear hd hln
        generalize UInt8.ofNat (n / 2 ^ (8 * j)) = b at *
        generalize hM : 8 * j = M at *
        have HM := Lib.hid hM
        clear hM
        go_wp2_with (at_builtin; refine wpList_append_rd rfl (.tmp 30) (.tmp 36) rfl w.heap.size _ (l ++ digs j n) rfl (HO.out.alloc _) (some ⟨wr.heap.size, 0, none⟩) 1 1 [b] rfl rfl (Rd.one b rfl) (by rw [HLN.out]; have := HL.out; simp; omega) (by have := HB.out.size; simp; omega) (l.length + j + 1) (by rw [HLN.out]; rfl) (l ++ digs (j + 1) n) (by rw [HD.out]; simp) ?_; intro A2 c2 w2 hown2 hg2 hnn2)
        exact ⟨⟨j + 1, A2, c2, by omega, by go_num, rfl, hown2, hnn2, bel_grown (HB.out.alloc HB.out.size _) (by have := HB.out.size; simp; omega) (HO.out.alloc _) (Nat.le_refl _) hg2⟩, by simp [intOf]; omega⟩
      · obtain rfl : j = k := by omega
        go_wp2_with fail
        go_ret2
        exact PairRet.mk (by rw [List.length_append, digs_length]) HO.out HN.out HB.out
/-- A nil slice and an error. -/
def NoRet (v2 : Value) (w : World) (e : Ending) (w' : World) : Prop := e = .returned (.tuple #[.slice none 0 0, v2]) ∧ w = w'

set_option maxHeartbeats 2000000 in
theorem put_no (A : Option Addr) (m c : Nat) (x : Int) (n : Nat) (w : World) (hn : n < 2 ^ 64) (h : ¬ (widthB x = true ∧ n < 2 ^ (8 * x.toNat))) :
    Calls Try.prog 8 #[.slice A m c, .int .i64 x, .int .u64 n] w (NoRet (.int .i64 2) w) := by
  have C1 := Lib.hid (width_any x)
  cases hx : widthB x
  · rw [hx] at C1
    clear h hx hn
    go_enter Try.func8, Try.ntmps8
    go_wp2_with fail
    refine (C1.out _).mono ?_
    rintro e w' ⟨rfl, rfl⟩
    go_wp2_with fail
    go_ret2
    exact ⟨rfl, rfl⟩
  · rw [hx] at C1
    have h2 : ¬ n < 2 ^ (8 * x.toNat) := fun e => h ⟨hx, e⟩
    have h3 : (x = 1 ∨ x = 2 ∨ x = 4) := by
      rcases width_cases hx with h1 | h1 | h1 | h1
      · exact .inl h1
      · exact .inr (.inl h1)
      · exact .inr (.inr h1)
      · subst h1; exact absurd hn h2
    clear h hx hn
    rcases h3 with rfl | rfl | rfl
    all_goals
      have t3 : ∀ k, ¬ n < 2 ^ k → (((n : Nat) : Int) / 2 ^ k != 0) = true := fun k hk => by
        rw [cast_div]
        have : 0 < n / 2 ^ k := Nat.div_pos (by omega) (Nat.two_pow_pos k)
        generalize n / 2 ^ k = z at this
        exact bne_iff_ne.2 (by omega)
      have t3 := t3 _ h2
      simp at t3
      clear h2
      go_enter Try.func8, Try.ntmps8
      go_wp2_with fail
      refine (C1.out _).mono ?_
      rintro e w' ⟨rfl, rfl⟩
      go_wp2_with fail
      go_ret2
      exact ⟨rfl, rfl⟩

set_option maxHeartbeats 4000000 in
theorem refPut_yes (A : Option Addr) (c : Nat) (l : List UInt8) (k n : Nat) (w : World) (hr : Rd w A l) (hl : l.length ≤ 100000) (hw : k = 1 ∨ k = 2 ∨ k = 4 ∨ k = 8) (hn : n < 2 ^ (8 * k)) (hn64 : n < 2 ^ 64) :
    Calls Try.prog 9 #[.slice A l.length c, .int .i64 k, .int .u64 n] w (PairRet (l ++ digs k n) (.int .i64 0) w) := by
  have C1 := Lib.hid (refWidth_any k)
  have hwb : widthB k = true := by rcases hw with rfl | rfl | rfl | rfl <;> rfl
  rw [hwb] at C1
  have C2 := Lib.hid (fun w' => digits_any k n w' (by omega) hn64)
  rw [Nat.div_eq_of_lt hn] at C2
  have HR := Lib.hid hr
  have HL := Lib.hid hl
  have hk8 : k ≤ 8 := by omega
  clear hr hl hw hn hn64 hwb
  go_enter Try.func9, Try.ntmps9
  go_wp2_with fail
  refine (C1.out _).mono ?_
  rintro e w' ⟨rfl, rfl⟩
  go_wp2_with fail
  refine (C2.out _).mono ?_
  rintro e w1 ⟨A1, c1, rfl, hown, hnn, hb1⟩
  have HO := Lib.hid hown
  have HN := Lib.hid hnn
  have HB := Lib.hid hb1
  have HR1 := Lib.hid (HR.out.after hb1)
  have hdl := digs_length k n
  have HDL := Lib.hid hdl
  rw [hdl] at HO ⊢
  clear hown hnn hb1 hdl
  go_wp2_with (first | (at_builtin; refine wpList_append_rd rfl (.tmp 22) (.tmp 23) rfl w.heap.size _ [] rfl (Own.nil _ _) A l.length c l rfl rfl HR1.out (by have := HL.out; simp; omega) HB.out.size l.length (by simp) l (by simp) ?_; intro A2 c2 w2 hown2 hg2 hnn2) | (at_builtin; refine wpList_append_rd rfl (.tmp 25) (.tmp 26) rfl w.heap.size _ l rfl hown2 A1 k c1 (digs k n) rfl HDL.out.symm (HO.out.rd.after ((Below.refl _ _).grown hg2 (Nat.le_refl _) (fun k hk => by cases hk))) (by have := HL.out; have := HDL.out; omega) (Nat.le_trans HB.out.size hg2.size) (l.length + k) (by rw [HDL.out]) (l ++ digs k n) rfl ?_; intro A3 c3 w3 hown3 hg3 hnn3))
  go_ret2
  have hb2 := bel_grown HB.out HB.out.size (Own.nil w1 w.heap.size) (Nat.le_refl _) hg2
  exact PairRet.mk (by rw [List.length_append, HDL.out]) hown3 hnn3 (bel_grown hb2 hb2.size hown2 (Nat.le_refl _) hg3)

set_option maxHeartbeats 2000000 in
theorem refPut_no (A : Option Addr) (m c : Nat) (x : Int) (n : Nat) (w : World) (hn : n < 2 ^ 64) (h : ¬ (widthB x = true ∧ n < 2 ^ (8 * x.toNat))) :
    Calls Try.prog 9 #[.slice A m c, .int .i64 x, .int .u64 n] w (BRet (.tuple #[.slice none 0 0, .int .i64 2]) w) := by
  have C1 := Lib.hid (refWidth_any x)
  cases hx : widthB x
  · rw [hx] at C1
    clear h hx hn
    go_enter Try.func9, Try.ntmps9
    go_wp2_with fail
    refine (C1.out _).mono ?_
    rintro e w' ⟨rfl, rfl⟩
    go_wp2_with fail
    go_ret2
    exact ⟨rfl, Below.refl _ _⟩
  · rw [hx] at C1
    have h2 : ¬ n < 2 ^ (8 * x.toNat) := fun e => h ⟨hx, e⟩
    have h3 : ∃ k : Nat, x = (k : Int) ∧ k ≤ 8 := by
      rcases width_cases hx with h1 | h1 | h1 | h1
      · exact ⟨1, h1, by omega⟩
      · exact ⟨2, h1, by omega⟩
      · exact ⟨4, h1, by omega⟩
      · exact ⟨8, h1, by omega⟩
    obtain ⟨k, rfl, hk⟩ := h3
    rw [Int.toNat_natCast] at h2
    have C2 := Lib.hid (fun w' => digits_any k n w' hk hn)
    have t3 : (((n / 2 ^ (8 * k) : Nat) : Int) != 0) = true := by
      have : 0 < n / 2 ^ (8 * k) := Nat.div_pos (by omega) (Nat.two_pow_pos _)
      generalize n / 2 ^ (8 * k) = z at this
      exact bne_iff_ne.2 (by omega)
    generalize n / 2 ^ (8 * k) = z at *
    clear h hx hn h2
    go_enter Try.func9, Try.ntmps9
    go_wp2_with fail
    refine (C1.out _).mono ?_
    rintro e w' ⟨rfl, rfl⟩
    go_wp2_with fail
    refine (C2.out _).mono ?_
    rintro e w1 ⟨A1, c1, rfl, hown, hnn, hb1⟩
    have HB := Lib.hid hb1
    clear hown hnn hb1
    go_wp2_with fail
    go_ret2
    exact ⟨rfl, HB.out⟩
end Go.Proofs.Ytjnlnkfpdlfkcaa
