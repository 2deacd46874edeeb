/- The reader of bytes, continued: numbers, the end, opening. -/
import Derived.Test.YtgmbdhpanhkfhaaByR
import Derived.Laws.BitsAllLaws
import Derived.Laws.BitsLemmas
namespace Go.Proofs.Ytgmbdhpanhkfhaa
open Go.RowKit Go.Lib

/-- The number that bytes stand for, the lowest first. -/
def valB : List UInt8 → Nat
  | [] => 0
  | b :: l => b.toNat + 256 * valB l
theorem valB_lt (l : List UInt8) : valB l < 2 ^ (8 * l.length) := by
  induction l with
  | nil => decide
  | cons b l ih =>
    have hb : b.toNat < 256 := b.toNat_lt
    show b.toNat + 256 * valB l < 2 ^ (8 * (l.length + 1))
    rw [show 8 * (l.length + 1) = 8 * l.length + 8 from by omega, Nat.pow_add, show (2 : Nat) ^ 8 = 256 from rfl]
    omega
theorem valB_snoc (l : List UInt8) (b : UInt8) : valB (l ++ [b]) = valB l + 2 ^ (8 * l.length) * b.toNat := by
  induction l with
  | nil => simp [valB]
  | cons c l ih =>
    show c.toNat + 256 * valB (l ++ [b]) = c.toNat + 256 * valB l + 2 ^ (8 * (l.length + 1)) * b.toNat
    rw [ih, show 8 * (l.length + 1) = 8 * l.length + 8 from by omega, Nat.pow_add, show (2 : Nat) ^ 8 = 256 from rfl, Nat.mul_assoc, Nat.mul_left_comm (2 ^ (8 * l.length))]
    generalize 2 ^ (8 * l.length) * b.toNat = X
    omega
theorem valB_digs (k n : Nat) (h : n < 2 ^ (8 * k)) : valB (digs k n) = n := by
  have gen : ∀ k, valB (digs k n) = n % 2 ^ (8 * k) := by
    intro k
    induction k with
    | zero => simp [digs, valB, Nat.mod_one]
    | succ k ih =>
      rw [digs_succ, valB_snoc, ih, digs_length]
      have e : (UInt8.ofNat (n / 2 ^ (8 * k))).toNat = n / 2 ^ (8 * k) % 256 := by simp
      rw [e, show 8 * (k + 1) = 8 * k + 8 from by omega, Nat.pow_add, Nat.mod_mul]
  rw [gen, Nat.mod_eq_of_lt h]
/-- One more byte is taken in. -/
theorem or_byte (l : List UInt8) (b : UInt8) (hl : l.length < 8) :
    bits .or .u64 ((valB l : Nat) : Int) (IntKind.u64.wrap (((b.toNat : Nat) : Int) * 2 ^ (8 * l.length))) = ((valB (l ++ [b]) : Nat) : Int) := by
  have h1 := valB_lt l
  have hb : b.toNat < 2 ^ 8 := b.toNat_lt
  have h8 : 2 ^ (8 * l.length) * b.toNat < 2 ^ 64 := by
    have h2 : 2 ^ (8 * l.length) ≤ 2 ^ 56 := Nat.pow_le_pow_right (by omega) (by omega)
    have h3 : 2 ^ (8 * l.length) * b.toNat < 2 ^ (8 * l.length) * 2 ^ 8 := Nat.mul_lt_mul_of_pos_left hb (Nat.two_pow_pos _)
    have h4 : 2 ^ (8 * l.length) * 2 ^ 8 ≤ 2 ^ 56 * 2 ^ 8 := Nat.mul_le_mul_right _ h2
    have h5 : (2 : Nat) ^ 56 * 2 ^ 8 = 2 ^ 64 := by decide
    omega
  have e1 : IntKind.u64.wrap (((b.toNat : Nat) : Int) * 2 ^ (8 * l.length)) = ((2 ^ (8 * l.length) * b.toNat : Nat) : Int) := by
    have : ((b.toNat : Nat) : Int) * 2 ^ (8 * l.length) = ((2 ^ (8 * l.length) * b.toNat : Nat) : Int) := by rw [Int.natCast_mul, Int.natCast_pow, Int.mul_comm]; rfl
    rw [this]
    generalize 2 ^ (8 * l.length) * b.toNat = z at h8
    exact IntWalk.u64_in _ (by omega)
  have hv : valB l < 2 ^ 64 := Nat.lt_of_lt_of_le h1 (Nat.pow_le_pow_right (by omega) (by omega))
  rw [e1, u64_or_nat _ _ hv h8, valB_snoc]
  congr 1
  rw [Nat.or_comm, ← Nat.two_pow_add_eq_or_of_lt h1]
  omega

/-- It returns a number; the reader holds these bytes. -/
def NumRet (v : Value) (g : Nat) (l2 : List UInt8) (w : World) (e : Ending) (w' : World) : Prop := e = .returned v ∧ Live w' g l2 ∧ Chg g w w'

set_option maxHeartbeats 4000000 in
theorem num_yes (g : Nat) (l : List UInt8) (k : Nat) (w : World) (h : Live w g l) (hl : l.length ≤ 1000000000) (hk : k = 1 ∨ k = 2 ∨ k = 4 ∨ k = 8) (hn : k ≤ l.length) :
    Calls Try.prog 27 #[.pointer (some ⟨g, 0, none⟩), .int .i64 k] w (NumRet (.int .u64 (valB (l.take k) : Nat)) g (l.drop k) w) := by
  have C1 := Lib.hid (width_any k)
  have hwb : widthB k = true := by rcases hk with rfl | rfl | rfl | rfl <;> rfl
  rw [hwb] at C1
  have C2 := Lib.hid (take_yes g l k w h hl hn)
  have hk8 : k ≤ 8 := by omega
  have hkl : (l.take k).length = k := by rw [List.length_take]; omega
  generalize hL : l.take k = L at *
  have HKL := Lib.hid hkl
  clear hwb hk h hn hl hkl hL
  go_enter Try.func27, Try.ntmps27
  go_wp2_with fail
  refine (C1.out _).mono ?_
  rintro e w' ⟨rfl, rfl⟩
  go_wp2_with fail
  refine C2.out.mono ?_
  rintro e w1 ⟨A, c, rfl, hr, hnn, hlive, hch⟩
  rw [HKL.out]
  have HR := Lib.hid hr
  have HLV := Lib.hid hlive
  have HCH := Lib.hid hch
  clear hr hnn hlive hch
  go_wp2_with fail
  go_loopw [4, 5, 6, 14] (fun nv _ _ i wr => ∃ j : Nat, j ≤ k ∧ i = .int .i64 j ∧ nv = .int .u64 (valB (L.take j) : Nat) ∧ wr = w1) (fun _ _ _ i _ => k - (intOf i).toNat)
  case atStart => exact ⟨0, by omega, rfl, rfl, rfl⟩
  case round =>
    obtain ⟨j, hj, rfl, rfl, rfl⟩ := hrel
    by_cases hlt : j < k
    · have hjL : j < L.length := by rw [HKL.out]; exact hlt
      obtain ⟨ad, rfl, hb, hc⟩ := HR.out (by omega)
      have hcell := hc j hjL
      have e9 : IntKind.i64.wrap (8 * (j : Int)) = ((8 * j : Nat) : Int) := IntWalk.i64_in _ (by omega)
      have e9' : 8 * (j : Int) = ((8 * j : Nat) : Int) := by omega
      have hv := or_byte (L.take j) L[j] (by rw [List.length_take]; omega)
      rw [show L.take j ++ [L[j]] = L.take (j + 1) from (List.take_succ_eq_append_getElem hjL).symm, show (L.take j).length = j from by rw [List.length_take]; omega] at hv
      have hb8 : ((L[j].toNat : Nat) : Int) ≤ 255 := by have := L[j].toNat_lt; omega
      have hcv : IntKind.u64.wrap ((L[j].toNat : Nat) : Int) = ((L[j].toNat : Nat) : Int) := IntWalk.u64_in _ (by omega)
      have hjk : (j : Int) < k := by omega
      clear hc
      generalize L[j].toNat = b at *
      generalize hV1 : valB (L.take (j + 1)) = V1 at *
      generalize valB (L.take j) = V at *
      have HV1 := Lib.hid hV1
      clear hV1
      generalize hM : 8 * j = M at *
      clear hM
      go_wp2_with fail
      exact ⟨⟨j + 1, by omega, by go_num, by first | rfl | (rw [HV1.out]), by first | rfl | trivial⟩, by simp [intOf]; omega⟩
    · obtain rfl : j = k := by omega
      have hE : L.take j = L := List.take_of_length_le (by rw [HKL.out]; exact Nat.le_refl _)
      rw [hE]
      clear hE
      go_wp2_with fail
      go_ret
      exact ⟨rfl, HLV.out, HCH.out⟩

/-- A number can't be told: the reader is torn from then on. -/
def Lacks (k : Int) (l : List UInt8) : Prop := ¬ (widthB k = true ∧ k ≤ l.length)
set_option maxHeartbeats 2000000 in
theorem num_torn (p : Option Addr) (k : Int) (w : World) (h : ∀ m, (m = k ∧ widthB k = true) ∨ (m = -1 ∧ widthB k = false) → Calls Try.prog 30 #[.pointer p, .int .i64 m] w (TornRet (.slice none 0 0) p w)) :
    Calls Try.prog 27 #[.pointer p, .int .i64 k] w (TornRet (.int .u64 0) p w) := by
  have C1 := Lib.hid (width_any k)
  cases hwb : widthB k
  · rw [hwb] at C1
    have C2 := Lib.hid (h (-1) (.inr ⟨rfl, hwb⟩))
    clear h hwb
    go_enter Try.func27, Try.ntmps27
    go_wp2_with fail
    refine (C1.out _).mono ?_
    rintro e w' ⟨rfl, rfl⟩
    go_wp2_with fail
    refine C2.out.mono ?_
    rintro e w1 ⟨rfl, hd, hc⟩
    have HD := Lib.hid hd
    have HC := Lib.hid hc
    clear hd hc
    go_wp2_with fail
    refine wp_loop_rounds 1 ?_
    rw [rounds_succ]
    go_wp2_with fail
    go_ret
    exact ⟨rfl, HD.out, HC.out⟩
  · rw [hwb] at C1
    have C2 := Lib.hid (h k (.inl ⟨rfl, hwb⟩))
    clear h hwb
    go_enter Try.func27, Try.ntmps27
    go_wp2_with fail
    refine (C1.out _).mono ?_
    rintro e w' ⟨rfl, rfl⟩
    go_wp2_with fail
    refine C2.out.mono ?_
    rintro e w1 ⟨rfl, hd, hc⟩
    have HD := Lib.hid hd
    have HC := Lib.hid hc
    clear hd hc
    go_wp2_with fail
    refine wp_loop_rounds 1 ?_
    rw [rounds_succ]
    go_wp2_with fail
    go_ret
    exact ⟨rfl, HD.out, HC.out⟩
theorem num_dead (p : Option Addr) (k : Int) (w : World) (h : Dead w p) : Calls Try.prog 27 #[.pointer p, .int .i64 k] w (TornRet (.int .u64 0) p w) :=
  num_torn p k w fun m _ => take_dead p m w h
theorem num_no (g : Nat) (l : List UInt8) (k : Int) (w : World) (h : Live w g l) (hl : l.length ≤ 1000000000) (hk : Lacks k l) : Calls Try.prog 27 #[.pointer (some ⟨g, 0, none⟩), .int .i64 k] w (TornRet (.int .u64 0) (some ⟨g, 0, none⟩) w) :=
  num_torn _ k w fun m hm => take_no g l m w h hl (by
    rintro ⟨h1, h2⟩
    rcases hm with ⟨rfl, h3⟩ | ⟨rfl, _⟩
    · exact hk ⟨h3, h2⟩
    · omega)

/-- It returns a reader of these bytes. -/
def OpenRet (l : List UInt8) (w : World) (e : Ending) (w' : World) : Prop := ∃ g, e = .returned (.pointer (some ⟨g, 0, none⟩)) ∧ Live w' g l ∧ w.heap.size ≤ g ∧ Below w.heap.size w w'
set_option maxHeartbeats 1000000 in
theorem open_any (A : Option Addr) (n c : Nat) (l : List UInt8) (w : World) (hn : n = l.length) (h0 : A = none → n = 0 ∧ c = 0) (hr : Rd w A l) (hl : l.length ≤ 1000000000) : Calls Try.prog 17 #[.slice A n c] w (OpenRet l w) := by
  have C := Lib.hid (clone_any A n c l w hn h0 hr (by omega))
  clear h0 hr
  subst hn
  go_enter Try.func17, Try.ntmps17
  go_wp2_with fail
  refine C.out.mono ?_
  rintro e w1 ⟨A1, c1, rfl, hown, hnn, hb1⟩
  have HO := Lib.hid hown
  have HN := Lib.hid hnn
  have HB := Lib.hid hb1
  clear hown hnn hb1
  go_wp2_with fail
  go_ret
  have hcap : l.length ≤ c1 := by
    rcases HO.out.2 with ⟨_, h0⟩ | ⟨g, cap, cur, hv, _, _, hle, _⟩
    · omega
    · injection hv with h1 h2 h3; omega
  refine ⟨_, rfl, ⟨A1, c1, IsBlk.new _ _ _, hcap, (HO.out.alloc _).rd, HN.out, fun ad h => ?_⟩, HB.out.size, HB.out.alloc HB.out.size _⟩
  subst h
  have := (World.ownsRow.lt HO.out ad.block rfl).2
  omega
end Go.Proofs.Ytgmbdhpanhkfhaa
