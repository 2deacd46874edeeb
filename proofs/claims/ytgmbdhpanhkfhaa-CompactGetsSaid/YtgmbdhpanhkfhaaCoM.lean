/- The document's reader: numbers, forms. -/
import Derived.Test.YtgmbdhpanhkfhaaCoL
namespace Go.Proofs.Ytgmbdhpanhkfhaa
open Go.RowKit Go.Lib Go.ChangeShapes Go.WideShapes

/-- The document's reader holds these bytes, of which so many are taken. -/
structure RL (w : World) (q : Nat) (A : Option Addr) (n c a : Nat) (all : List UInt8) : Prop where
  blk : RB w q A n c a false
  len : all.length = n
  cap : n ≤ c
  rd : Rd w A all
  off : 0 < all.length → ∀ ad : Addr, A = some ad → ad.block ≠ q
  nil : A = none → c = 0
  at_ : a ≤ n
  most : n ≤ 100000
theorem RL.rdc {w w' : World} {q n c a : Nat} {A : Option Addr} {all : List UInt8} (h : RL w q A n c a all) (hc : Chg q w w') : Rd w' A all := by
  rcases Nat.eq_zero_or_pos all.length with he | he
  · rw [List.length_eq_zero_iff.1 he]; exact Rd.nil _ _
  · exact h.rd.chg hc (h.off he)
theorem RL.go {w w' : World} {q n c a a' : Nat} {A : Option Addr} {all : List UInt8} (h : RL w q A n c a all) (hc : Chg q w w') (hb : RB w' q A n c a' false) (ha : a' ≤ n) : RL w' q A n c a' all :=
  ⟨hb, h.len, h.cap, h.rdc hc, h.off, h.nil, ha, h.most⟩
theorem RL.after {w w' : World} {q n c a : Nat} {A : Option Addr} {all : List UInt8} (h : RL w q A n c a all) (hb : Below w.heap.size w w') : RL w' q A n c a all :=
  ⟨IsBlk.after h.blk hb, h.len, h.cap, h.rd.after hb, h.off, h.nil, h.at_, h.most⟩
/-- The document's reader is gone. -/
def RG (w : World) (q : Nat) : Prop := ∃ A n c a, RB w q A n c a true
theorem RG.after {w w' : World} {q : Nat} (h : RG w q) (hb : Below w.heap.size w w') : RG w' q := by
  obtain ⟨A, n, c, a, h⟩ := h
  exact ⟨A, n, c, a, IsBlk.after h hb⟩
theorem RG.lt {w : World} {q : Nat} (h : RG w q) : q < w.heap.size := by
  obtain ⟨A, n, c, a, h⟩ := h
  exact IsBlk.lt h

theorem refNum_yes (q : Nat) (A : Option Addr) (n c a k : Nat) (all : List UInt8) (w : World) (h : RL w q A n c a all) (hk : k = 1 ∨ k = 2 ∨ k = 4 ∨ k = 8) (hl : a + k ≤ n) :
    Calls Try.prog 31 #[.pointer (some ⟨q, 0, none⟩), .int .i64 k] w fun e w' => e = .returned (.int .u64 (valB ((all.drop a).take k) : Nat)) ∧ RL w' q A n c (a + k) all ∧ Chg q w w' := by
  have C1 := Lib.hid (fun w' => refWidth_any k w')
  have hwb : widthB k = true := by rcases hk with rfl | rfl | rfl | rfl <;> rfl
  rw [hwb] at C1
  have C2 := Lib.hid (refTake_yes q A n c a k all w h.blk h.len h.cap h.rd h.nil hl h.most)
  have hsl : ((all.drop a).take k).length = k := by rw [List.length_take, List.length_drop, h.len]; omega
  have C3 := Lib.hid (fun A' c' w' (hr : Rd w' A' ((all.drop a).take k)) => refValue_any A' k c' _ w' hsl hr (by omega))
  have H := Lib.hid h
  have HL := Lib.hid hl
  clear hwb hk hsl h hl
  go_enter Try.func31, Try.ntmps31
  go_wp2_with fail
  refine (C1.out _).mono ?_
  rintro e w' ⟨rfl, rfl⟩
  go_wp2_with fail
  refine C2.out.mono ?_
  rintro e w1 ⟨A', c', rfl, hr, hb, hc⟩
  have HR := Lib.hid hr
  have HX := Lib.hid (H.out.go hc hb HL.out)
  have HC := Lib.hid hc
  clear hr hb hc
  go_wp2_with fail
  refine (C3.out _ _ _ HR.out).mono ?_
  rintro e w2 ⟨rfl, hb2⟩
  have HX2 := Lib.hid (HX.out.after hb2)
  have HC2 := Lib.hid (HC.out.trans (Chg.below HX.out.blk.lt hb2))
  clear hb2
  go_wp2_with fail
  go_ret
  exact ⟨rfl, HX2.out, HC2.out⟩

/-- No number; the reader is gone. -/
theorem refNum_torn (q k : Nat) (w : World) (hk : k = 1 ∨ k = 2 ∨ k = 4 ∨ k = 8) (C : Calls Try.prog 32 #[.pointer (some ⟨q, 0, none⟩), .int .i64 k] w (RGone q w (.slice none 0 0))) :
    Calls Try.prog 31 #[.pointer (some ⟨q, 0, none⟩), .int .i64 k] w fun e w' => e = .returned (.int .u64 0) ∧ RG w' q ∧ Chg q w w' := by
  have C1 := Lib.hid (fun w' => refWidth_any k w')
  have hwb : widthB k = true := by rcases hk with rfl | rfl | rfl | rfl <;> rfl
  rw [hwb] at C1
  have C2 := Lib.hid C
  have C3 := Lib.hid (fun w' => refValue_any none 0 0 [] w' rfl (Rd.nil _ _) (by decide))
  clear hwb hk C
  go_enter Try.func31, Try.ntmps31
  go_wp2_with fail
  refine (C1.out _).mono ?_
  rintro e w' ⟨rfl, rfl⟩
  go_wp2_with fail
  refine C2.out.mono ?_
  rintro e w1 ⟨rfl, hb, hc⟩
  have HX := Lib.hid (show RG w1 q from hb)
  have HC := Lib.hid hc
  clear hb hc
  go_wp2_with fail
  refine (C3.out _).mono ?_
  rintro e w2 ⟨rfl, hb2⟩
  have HX2 := Lib.hid (HX.out.after hb2)
  have HC2 := Lib.hid (HC.out.trans (Chg.below HX.out.lt hb2))
  clear hb2
  go_wp2_with fail
  go_ret
  exact ⟨rfl, HX2.out, HC2.out⟩
theorem refNum_no (q : Nat) (A : Option Addr) (n c a k : Nat) (all : List UInt8) (w : World) (h : RL w q A n c a all) (hk : k = 1 ∨ k = 2 ∨ k = 4 ∨ k = 8) (hl : n < a + k) :
    Calls Try.prog 31 #[.pointer (some ⟨q, 0, none⟩), .int .i64 k] w fun e w' => e = .returned (.int .u64 0) ∧ RG w' q ∧ Chg q w w' :=
  refNum_torn q k w hk (refTake_no q A n c a k w h.blk h.at_ hl h.most)
theorem refNum_gone (q k : Nat) (w : World) (h : RG w q) (hk : k = 1 ∨ k = 2 ∨ k = 4 ∨ k = 8) :
    Calls Try.prog 31 #[.pointer (some ⟨q, 0, none⟩), .int .i64 k] w fun e w' => e = .returned (.int .u64 0) ∧ RG w' q ∧ Chg q w w' := by
  obtain ⟨A, n, c, a, h⟩ := h
  exact refNum_torn q k w hk (refTake_gone q A n c a k w h)

/-- It returns a number and an error; the document's reader is gone. -/
def RGetTorn (q : Nat) (w : World) (e : Ending) (w' : World) : Prop := e = .returned (.tuple #[.int .u64 0, .int .i64 4]) ∧ RG w' q ∧ Chg q w w'
set_option maxHeartbeats 4000000 in
/-- The first byte was not there. -/
theorem refGet_torn (q most : Nat) (w : World) (C : Calls Try.prog 31 #[.pointer (some ⟨q, 0, none⟩), .int .i64 1] w fun e w' => e = .returned (.int .u64 0) ∧ RG w' q ∧ Chg q w w') :
    Calls Try.prog 21 #[.pointer (some ⟨q, 0, none⟩), .int .u64 most] w (RGetTorn q w) := by
  have C1 := Lib.hid C
  clear C
  go_enter Try.func21, Try.ntmps21
  go_wp2_with fail
  refine C1.out.mono ?_
  rintro e w1 ⟨rfl, hg, hc⟩
  have HG := Lib.hid hg
  have HC := Lib.hid hc
  obtain ⟨A, n, c, a, hb⟩ := hg
  have q2 := hb.cell 2
  simp at q2
  clear hb hc
  go_wp2_with fail
  go_ret2
  exact ⟨rfl, HG.out, HC.out⟩

set_option maxHeartbeats 8000000 in
/-- The first byte was there, what it speaks of is not. -/
theorem refGet_short (q : Nat) (A : Option Addr) (n c a most : Nat) (all : List UInt8) (b : UInt8) (r : List UInt8) (w : World) (h : RL w q A n c a all) (hd : all.drop a = b :: r) (hW : r.length < cwidth b.toNat) :
    Calls Try.prog 21 #[.pointer (some ⟨q, 0, none⟩), .int .u64 most] w (RGetTorn q w) := by
  have hlen : r.length + 1 + a = n := by
    have := congrArg List.length hd
    rw [List.length_drop, h.len] at this
    have h2 := h.at_
    simp at this
    omega
  have C1 := Lib.hid (refNum_yes q A n c a 1 all w h (by decide) (by omega))
  rw [hd, show (b :: r).take 1 = [b] from rfl, valB_one] at C1
  have hB : b.toNat = 253 ∧ cwidth b.toNat = 2 ∨ b.toNat = 254 ∧ cwidth b.toNat = 4 ∨ b.toNat = 255 ∧ cwidth b.toNat = 8 := by
    have := cwidth_inv b.toNat
    have := cwidth_of b.toNat
    omega
  rcases hB with ⟨hB, hw⟩ | ⟨hB, hw⟩ | ⟨hB, hw⟩
  case' inl => have C2 := Lib.hid (fun w' (h1 : RL w' q A n c (a + 1) all) => refNum_no q A n c (a + 1) 2 all w' h1 (by decide) (by omega))
  case' inr.inl => have C2 := Lib.hid (fun w' (h1 : RL w' q A n c (a + 1) all) => refNum_no q A n c (a + 1) 4 all w' h1 (by decide) (by omega))
  case' inr.inr => have C2 := Lib.hid (fun w' (h1 : RL w' q A n c (a + 1) all) => refNum_no q A n c (a + 1) 8 all w' h1 (by decide) (by omega))
  all_goals
    rw [hB] at C1
    clear hB hw hW hd hlen h
    go_enter Try.func21, Try.ntmps21
    go_wp2_with fail
    refine C1.out.mono ?_
    rintro e w1 ⟨rfl, h1, hc1⟩
    have H1 := Lib.hid h1
    have HC1 := Lib.hid hc1
    have q2 := h1.blk.cell 2
    simp at q2
    clear h1 hc1
    go_wp2_with fail
    refine (C2.out _ H1.out).mono ?_
    rintro e w2 ⟨rfl, hg, hc⟩
    have HG := Lib.hid hg
    have HC := Lib.hid (HC1.out.trans hc)
    obtain ⟨A', n', c', a', hb⟩ := hg
    have q3 := hb.cell 2
    simp at q3
    clear hb hc q2
    go_wp2_with fail
    go_ret2
    exact ⟨rfl, HG.out, HC.out⟩
end Go.Proofs.Ytgmbdhpanhkfhaa
