/- Numbers as bytes: widths, the reference's digits. -/
import Derived.Test.YtgmbdhpanhkfhaaByW
namespace Go.Proofs.Ytgmbdhpanhkfhaa
open Go.RowKit Go.Lib

/-- The first k bytes of a number, the lowest first. -/
def digs (k n : Nat) : List UInt8 := (List.range k).map fun i => UInt8.ofNat (n / 2 ^ (8 * i))
theorem digs_length (k n : Nat) : (digs k n).length = k := by simp [digs]
theorem digs_succ (k n : Nat) : digs (k + 1) n = digs k n ++ [UInt8.ofNat (n / 2 ^ (8 * k))] := by simp [digs, List.range_succ]
def widthB (x : Int) : Bool := decide (x = 1) || decide (x = 2) || decide (x = 4) || decide (x = 8)
theorem width_cases {x : Int} (h : widthB x = true) : x = 1 ∨ x = 2 ∨ x = 4 ∨ x = 8 := by
  unfold widthB at h
  simp at h
  omega
theorem width_not {x : Int} (h : widthB x = false) : x ≠ 1 ∧ x ≠ 2 ∧ x ≠ 4 ∧ x ≠ 8 := by
  unfold widthB at h
  simp at h
  omega

set_option maxHeartbeats 1000000 in
theorem width_any (x : Int) (w : World) : Calls Try.prog 34 #[.int .i64 x] w fun e w' => e = .returned (.bool (widthB x)) ∧ w = w' := by
  cases h : widthB x
  · obtain ⟨h1, h2, h3, h4⟩ := width_not h
    have t1 : (x == 1) = false := by simpa using h1
    have t2 : (x == 2) = false := by simpa using h2
    have t3 : (x == 4) = false := by simpa using h3
    have t4 : (x == 8) = false := by simpa using h4
    clear h h1 h2 h3 h4
    go_enter Try.func34, Try.ntmps34
    go_wp2_with fail
    go_ret
    exact ⟨rfl, rfl⟩
  · rcases width_cases h with rfl | rfl | rfl | rfl
    all_goals
      clear h
      go_enter Try.func34, Try.ntmps34
      go_wp2_with fail
      go_ret
      exact ⟨rfl, rfl⟩
set_option maxHeartbeats 1000000 in
theorem refWidth_any (x : Int) (w : World) : Calls Try.prog 35 #[.int .i64 x] w fun e w' => e = .returned (.bool (widthB x)) ∧ w = w' := by
  cases h : widthB x
  · obtain ⟨h1, h2, h3, h4⟩ := width_not h
    have t1 : (x == 1) = false := by simpa using h1
    have t2 : (x == 2) = false := by simpa using h2
    have t3 : (x == 4) = false := by simpa using h3
    have t4 : (x == 8) = false := by simpa using h4
    clear h h1 h2 h3 h4
    go_enter Try.func35, Try.ntmps35
    go_wp2_with fail
    go_ret
    exact ⟨rfl, rfl⟩
  · rcases width_cases h with rfl | rfl | rfl | rfl
    all_goals
      clear h
      go_enter Try.func35, Try.ntmps35
      go_wp2_with fail
      go_ret
      exact ⟨rfl, rfl⟩

theorem Rd.one {w : World} {g : Nat} (b : UInt8) (hg : w.heap.size = g) : Rd (w.alloc (.cells #[.int .u8 (b.toNat : Int)] 5)) (some ⟨g, 0, none⟩) [b] := by
  subst hg
  intro _
  refine ⟨_, rfl, by simp, fun j hj => ?_⟩
  have : j = 0 := by simpa using hj
  subst this
  simp [Addr.add]
theorem byte_cut (n k : Nat) : IntKind.u8.wrap (((n : Nat) : Int) / 2 ^ (8 * k)) = (((UInt8.ofNat (n / 2 ^ (8 * k))).toNat : Nat) : Int) := by
  have e2 : ((n : Nat) : Int) / 2 ^ (8 * k) = ((n / 2 ^ (8 * k) : Nat) : Int) := by
    have : (2 : Int) ^ (8 * k) = ((2 ^ (8 * k) : Nat) : Int) := by rw [Int.natCast_pow]; rfl
    rw [this]; rfl
  rw [e2]
  generalize n / 2 ^ (8 * k) = z
  simp only [IntKind.wrap, IntKind.bits, IntKind.signed]; simp

/-- It returns a slice of the call's own, of these bytes, and a number. -/
def PairRet (l : List UInt8) (v2 : Value) (w : World) (e : Ending) (w' : World) : Prop :=
  ∃ A c, e = .returned (.tuple #[.slice A l.length c, v2]) ∧ Own w' w.heap.size (.slice A l.length c) l ∧ (A = none → c = 0) ∧ Below w.heap.size w w'
theorem PairRet.mk {l : List UInt8} {v2 : Value} {w w' : World} {A : Option Addr} {n c : Nat} (hn : n = l.length) (h : Own w' w.heap.size (.slice A n c) l) (h0 : A = none → c = 0) (hb : Below w.heap.size w w') : PairRet l v2 w (.returned (.tuple #[.slice A n c, v2])) w' := by
  subst hn
  exact ⟨A, c, rfl, h, h0, hb⟩

theorem cast_div (n k : Nat) : ((n : Nat) : Int) / 2 ^ k = ((n / 2 ^ k : Nat) : Int) := by
  have : (2 : Int) ^ k = ((2 ^ k : Nat) : Int) := by rw [Int.natCast_pow]; rfl
  rw [this]; rfl

theorem u8_mod (n : Nat) : IntKind.u8.wrap (((n : Nat) : Int) % 256) = (((UInt8.ofNat n).toNat : Nat) : Int) := by
  simp only [IntKind.wrap, IntKind.bits, IntKind.signed]; simp

set_option maxHeartbeats 4000000 in
theorem digits_any (k n : Nat) (w : World) (hk : k ≤ 8) (hn : n < 2 ^ 64) :
    Calls Try.prog 33 #[.int .i64 k, .int .u64 n] w (PairRet (digs k n) (.int .u64 (n / 2 ^ (8 * k) : Nat)) w) := by
  have H64 := Lib.hid hn
  clear hn
  go_enter Try.func33, Try.ntmps33
  go_wp2_with fail
  go_loopw [1, 6, 7] (fun nv v i wr => ∃ (j : Nat) (A' : Option Addr) (c' : Nat), j ≤ k ∧ i = .int .i64 j ∧ nv = .int .u64 (n / 2 ^ (8 * j) : Nat) ∧ v = .slice A' j c' ∧ Own wr w.heap.size (.slice A' j c') (digs j n) ∧ (A' = none → c' = 0) ∧ Below w.heap.size w wr) (fun _ _ i _ => k - (intOf i).toNat)
  case atStart => exact ⟨0, none, 0, by omega, rfl, by simp, rfl, Own.nil _ _, fun _ => rfl, Below.refl _ _⟩
  case round =>
    obtain ⟨j, A', c', hj, rfl, rfl, rfl, hown', hnn', hbel⟩ := hrel
    have HO := Lib.hid hown'
    have HN := Lib.hid hnn'
    have HB := Lib.hid hbel
    clear hown' hnn' hbel
    by_cases hlt : j < k
    · have hnx : n / 2 ^ (8 * j) / 256 = n / 2 ^ (8 * (j + 1)) := by rw [show 8 * (j + 1) = 8 * j + 8 from by omega, Nat.pow_add, ← Nat.div_div_eq_div_mul]
      have hlt64 : n / 2 ^ (8 * j) < 2 ^ 64 := Nat.lt_of_le_of_lt (Nat.div_le_self _ _) H64.out
      have hd := digs_succ j n
      have HD := Lib.hid hd
      have HX := Lib.hid hnx
      have hjk : (j : Int) < k := by omega
      clear hd hnx
      generalize n / 2 ^ (8 * j) = nj at *
      have hv := u8_mod nj
      have hub : (nj : Int) ≤ 18446744073709551615 := by omega
      clear hlt64
      generalize UInt8.ofNat nj = b at *
      go_wp2_with (at_builtin; refine wpList_append_rd rfl (.tmp 13) (.tmp 17) rfl w.heap.size _ (digs j n) rfl (HO.out.alloc _) (some ⟨wr.heap.size, 0, none⟩) 1 1 [b] rfl rfl (Rd.one b rfl) (by rw [digs_length]; simp; omega) (by have := HB.out.size; simp; omega) (j + 1) (by rw [digs_length]; rfl) (digs (j + 1) n) (by rw [HD.out]) ?_; intro A2 c2 w2 hown2 hg2 hnn2)
      exact ⟨⟨j + 1, A2, c2, by omega, by go_num, by rw [← HX.out]; first | rfl | simp, rfl, hown2, hnn2, bel_grown (HB.out.alloc HB.out.size _) (by have := HB.out.size; simp; omega) (HO.out.alloc _) (Nat.le_refl _) hg2⟩, by simp [intOf]; omega⟩
    · obtain rfl : j = k := by omega
      go_wp2_with fail
      go_ret2
      exact PairRet.mk (by rw [digs_length]) HO.out HN.out HB.out

end Go.Proofs.Ytgmbdhpanhkfhaa
