/- The document's forms and texts; texts with any bound. -/
import Derived.Test.YtgmbdhpanhkfhaaCoM
namespace Go.Proofs.Ytgmbdhpanhkfhaa
open Go.RowKit Go.Lib Go.ChangeShapes Go.WideShapes

theorem ways (cs N most W : Nat) (z : Int) (hz : z = (W : Int) + 1) : ∃ (v : Nat) (e0 : Int), v = (if cs = W + 1 then (if N ≤ most then N else 0) else 0) ∧ e0 = (if cs = W + 1 then (if N ≤ most then 0 else 3) else 4) ∧
    (((((cs : Nat) : Int) != z) = false ∧ ¬ (most : Int) < N ∧ v = N ∧ e0 = 0) ∨ ((((cs : Nat) : Int) != z) = false ∧ (most : Int) < N ∧ v = 0 ∧ e0 = 3) ∨ ((((cs : Nat) : Int) != z) = true ∧ v = 0 ∧ e0 = 4)) := by
  subst hz
  have hcase : (cs = W + 1 ∧ (((cs : Nat) : Int) != (W : Int) + 1) = false) ∨ (cs ≠ W + 1 ∧ (((cs : Nat) : Int) != (W : Int) + 1) = true) := by
    by_cases h : cs = W + 1
    · exact .inl ⟨h, by rw [h]; simp⟩
    · exact .inr ⟨h, by simp; omega⟩
  have hm2 : (N ≤ most ∧ ¬ (most : Int) < N) ∨ (¬ N ≤ most ∧ (most : Int) < N) := by omega
  refine ⟨_, _, rfl, rfl, ?_⟩
  rcases hcase with ⟨h1, h2⟩ | ⟨h1, h2⟩
  · rcases hm2 with ⟨h3, h4⟩ | ⟨h3, h4⟩
    · exact .inl ⟨h2, h4, by rw [if_pos h1, if_pos h3], by rw [if_pos h1, if_pos h3]⟩
    · exact .inr (.inl ⟨h2, h4, by rw [if_pos h1, if_neg h3], by rw [if_pos h1, if_neg h3]⟩)
  · exact .inr (.inr ⟨h2, by rw [if_neg h1], by rw [if_neg h1]⟩)

set_option maxRecDepth 100000 in
set_option maxHeartbeats 16000000 in
theorem refGet_whole (q : Nat) (A : Option Addr) (n c a most N : Nat) (all : List UInt8) (b : UInt8) (r : List UInt8) (w : World) (h : RL w q A n c a all) (hd : all.drop a = b :: r) (hW : cwidth b.toNat ≤ r.length) (hN : N = if cwidth b.toNat = 0 then b.toNat else valB (r.take (cwidth b.toNat))) (hN64 : N < 2 ^ 64) :
    Calls Try.prog 21 #[.pointer (some ⟨q, 0, none⟩), .int .u64 most] w fun e w' => e = .returned (.tuple #[.int .u64 (if csize N = cwidth b.toNat + 1 then (if N ≤ most then N else 0) else 0 : Nat), .int .i64 (if csize N = cwidth b.toNat + 1 then (if N ≤ most then 0 else 3) else 4)]) ∧ RL w' q A n c (a + 1 + cwidth b.toNat) all ∧ Chg q w w' := by
  have hlen : r.length + 1 + a = n := by
    have := congrArg List.length hd
    rw [List.length_drop, h.len] at this
    have h2 := h.at_
    simp at this
    omega
  have hd1 : all.drop (a + 1) = r := by rw [← List.drop_drop, hd]; rfl
  have C1 := Lib.hid (refNum_yes q A n c a 1 all w h (by decide) (by omega))
  rw [hd, show (b :: r).take 1 = [b] from rfl, valB_one] at C1
  have CS := Lib.hid (fun w' => refSize_any N w' hN64)
  by_cases h0 : cwidth b.toNat = 0
  · rw [if_pos h0] at hN
    rw [h0]
    have hlt : b.toNat < 253 := by
      have := b.toNat_lt
      unfold cwidth at h0
      repeat' split at h0
      all_goals omega
    rw [← hN] at C1 hlt
    have hb3 : ¬ (253 : Int) ≤ N := by omega
    obtain ⟨v, e0, hv, he, hways⟩ := ways (csize N) N most 0 1 rfl
    rw [← hv, ← he]
    generalize csize N = cs at *
    clear hv he h0 hN hd hd1 hlen h hW hlt
    rcases hways with ⟨t1, t2, rfl, rfl⟩ | ⟨t1, t2, rfl, rfl⟩ | ⟨t1, rfl, rfl⟩
    all_goals
      go_enter Try.func21, Try.ntmps21
      go_wp2_with fail
      refine C1.out.mono ?_
      rintro e w1 ⟨rfl, h1, hc1⟩
      have H1 := Lib.hid h1
      have HC1 := Lib.hid hc1
      have q2 := h1.blk.cell 2
      simp at q2
      clear h1 hc1
      go_wp2_with fail
      refine (CS.out _).mono ?_
      rintro e w2 ⟨rfl, hb2⟩
      have HR := Lib.hid (H1.out.after hb2)
      have HC := Lib.hid (HC1.out.trans (Chg.below H1.out.blk.lt hb2))
      clear hb2 q2
      go_wp2_with fail
      go_ret2
      exact ⟨rfl, HR.out, HC.out⟩
  · rw [if_neg h0] at hN
    have hB : b.toNat = 253 ∧ cwidth b.toNat = 2 ∨ b.toNat = 254 ∧ cwidth b.toNat = 4 ∨ b.toNat = 255 ∧ cwidth b.toNat = 8 := by
      have := cwidth_inv b.toNat
      have := cwidth_of b.toNat
      omega
    rcases hB with ⟨hB, hw⟩ | ⟨hB, hw⟩ | ⟨hB, hw⟩
    case' inl =>
      rw [hw] at hN hW ⊢
      have C2 := Lib.hid (fun w' (h1 : RL w' q A n c (a + 1) all) => refNum_yes q A n c (a + 1) 2 all w' h1 (by decide) (by omega))
      obtain ⟨v, e0, hv, he, hways⟩ := ways (csize N) N most 2 3 rfl
    case' inr.inl =>
      rw [hw] at hN hW ⊢
      have C2 := Lib.hid (fun w' (h1 : RL w' q A n c (a + 1) all) => refNum_yes q A n c (a + 1) 4 all w' h1 (by decide) (by omega))
      obtain ⟨v, e0, hv, he, hways⟩ := ways (csize N) N most 4 5 rfl
    case' inr.inr =>
      rw [hw] at hN hW ⊢
      have C2 := Lib.hid (fun w' (h1 : RL w' q A n c (a + 1) all) => refNum_yes q A n c (a + 1) 8 all w' h1 (by decide) (by omega))
      obtain ⟨v, e0, hv, he, hways⟩ := ways (csize N) N most 8 9 rfl
    all_goals
      rw [hd1, ← hN] at C2
      rw [hB] at C1
      rw [← hv, ← he]
      generalize csize N = cs at *
      clear hv he h0 hN hd hd1 hlen h hW hB hw
      rcases hways with ⟨t1, t2, rfl, rfl⟩ | ⟨t1, t2, rfl, rfl⟩ | ⟨t1, rfl, rfl⟩
      all_goals
        go_enter Try.func21, Try.ntmps21
        go_wp2_with fail
        refine C1.out.mono ?_
        rintro e w1 ⟨rfl, h1, hc1⟩
        have H1 := Lib.hid h1
        have HC1 := Lib.hid hc1
        have q2 := h1.blk.cell 2
        simp at q2
        clear h1 hc1
        go_wp2_with fail
        refine (C2.out _ H1.out).mono ?_
        rintro e w2 ⟨rfl, h2, hc2⟩
        have H2 := Lib.hid h2
        have HC2 := Lib.hid (HC1.out.trans hc2)
        have q3 := h2.blk.cell 2
        simp at q3
        clear h2 hc2 q2
        go_wp2_with fail
        refine (CS.out _).mono ?_
        rintro e w3 ⟨rfl, hb3⟩
        have HR := Lib.hid (H2.out.after hb3)
        have HC := Lib.hid (HC2.out.trans (Chg.below H2.out.blk.lt hb3))
        clear hb3 q3
        go_wp2_with fail
        go_ret2
        exact ⟨rfl, HR.out, HC.out⟩

/-- The bound of a text, as Get is given it. -/
def Mo (m : Int) (k : Nat) : Prop := (m = k ∧ k < 2 ^ 63) ∨ (m < 0 ∧ k = 0)
theorem Mo.max {m : Int} {k : Nat} (h : Mo m k) : Max.max m 0 = (k : Int) ∧ IntKind.u64.wrap (k : Int) = (k : Int) ∧ k < 2 ^ 63 := by
  have e : (2 : Nat) ^ 63 = 9223372036854775808 := by decide
  rcases h with ⟨h1, h2⟩ | ⟨h1, h2⟩
  · exact ⟨by omega, IntWalk.u64_in _ (by omega), h2⟩
  · exact ⟨by omega, IntWalk.u64_in _ (by omega), by omega⟩

set_option maxHeartbeats 2000000 in
theorem txt_err (p : Value) (m : Int) (k v : Nat) (e0 : Int) (w : World) (X : World → Prop) (hk : Mo m k) (he : e0 = 3 ∨ e0 = 4)
    (C : Calls Try.prog 18 #[p, .int .u64 k] w fun e w' => e = .returned (.tuple #[.int .u64 v, .int .i64 e0]) ∧ X w') :
    Calls Try.prog 20 #[p, .int .i64 m] w fun e w' => e = .returned (.tuple #[.slice none 0 0, .int .i64 e0]) ∧ X w' := by
  have C1 := Lib.hid C
  obtain ⟨hmx, hc, _⟩ := hk.max
  have hne : ¬ e0 = 0 := by omega
  have hm : (¬ m < 0 ∧ m = k) ∨ (m < 0 ∧ k = 0) := by unfold Mo at hk; omega
  clear C he hk hmx
  rcases hm with ⟨h0, rfl⟩ | ⟨h0, rfl⟩
  case' inl => have hmx : Max.max (k : Int) 0 = k := by omega
  case' inr => have hmx : Max.max m 0 = 0 := by omega
  all_goals
    go_enter Try.func20, Try.ntmps20
    go_wp2_with fail
    refine C1.out.mono ?_
    rintro e w1 ⟨rfl, hx⟩
    have HX := Lib.hid hx
    clear hx
    go_wp2_with fail
    go_ret2
    exact ⟨rfl, HX.out⟩

set_option maxHeartbeats 2000000 in
theorem txt_yes (g : Nat) (m : Int) (k n : Nat) (l : List UInt8) (w : World) (hk : Mo m k) (hl : l.length ≤ 1000000000) (hn : n ≤ l.length)
    (C : Calls Try.prog 18 #[.pointer (some ⟨g, 0, none⟩), .int .u64 k] w (GetRet n 0 g l w)) :
    Calls Try.prog 20 #[.pointer (some ⟨g, 0, none⟩), .int .i64 m] w (TextRet n (l.take n) g (l.drop n) w) := by
  have C1 := Lib.hid C
  have C2 := Lib.hid (fun w' (h : Live w' g l) => take_yes g l n w' h hl hn)
  have C3 := Lib.hid (fun w' (h : Live w' g (l.drop n)) => torn_live g (l.drop n) w' h (by rw [List.length_drop]; omega))
  obtain ⟨hmx, hc, _⟩ := hk.max
  have hc2 : IntKind.i64.wrap (n : Int) = (n : Int) := IntWalk.i64_in _ (by omega)
  have HLN := Lib.hid (show (l.take n).length = n by rw [List.length_take]; omega)
  have hm : (¬ m < 0 ∧ m = k) ∨ (m < 0 ∧ k = 0) := by unfold Mo at hk; omega
  clear C hl hn hk hmx
  rcases hm with ⟨h0, rfl⟩ | ⟨h0, rfl⟩
  case' inl => have hmx : Max.max (k : Int) 0 = k := by omega
  case' inr => have hmx : Max.max m 0 = 0 := by omega
  all_goals
    go_enter Try.func20, Try.ntmps20
    go_wp2_with fail
    refine C1.out.mono ?_
    rintro e w1 ⟨rfl, hl1, hc1⟩
    have HL := Lib.hid hl1
    have HC := Lib.hid hc1
    clear hl1 hc1
    go_wp2_with fail
    refine (C2.out _ HL.out).mono ?_
    rintro e w2 ⟨A, c, rfl, hr, _, hl2, hc3⟩
    rw [HLN.out]
    have HL2 := Lib.hid hl2
    have HR := Lib.hid hr
    have HC2 := Lib.hid (HC.out.trans hc3)
    clear hl2 hc3 hr
    go_wp2_with fail
    refine (C3.out _ HL2.out).mono ?_
    rintro e w' ⟨rfl, rfl⟩
    go_wp2_with fail
    go_ret2
    exact ⟨_, _, rfl, HR.out, HL2.out, HC2.out⟩

set_option maxHeartbeats 2000000 in
theorem txt_no (g : Nat) (m : Int) (k n : Nat) (l : List UInt8) (w : World) (hk : Mo m k) (hl : l.length ≤ 1000000000) (hn : ¬ n ≤ l.length) (hnk : n ≤ k)
    (C : Calls Try.prog 18 #[.pointer (some ⟨g, 0, none⟩), .int .u64 k] w (GetRet n 0 g l w)) :
    Calls Try.prog 20 #[.pointer (some ⟨g, 0, none⟩), .int .i64 m] w (TextTorn (some ⟨g, 0, none⟩) w) := by
  have C1 := Lib.hid C
  have C2 := Lib.hid (fun w' (h : Live w' g l) => take_no g l n w' h hl (by omega))
  have C3 := Lib.hid (fun w' (h : Dead w' (some ⟨g, 0, none⟩)) => torn_dead (some ⟨g, 0, none⟩) w' h)
  obtain ⟨hmx, hc, hk63⟩ := hk.max
  have e : (2 : Nat) ^ 63 = 9223372036854775808 := by decide
  have hc2 : IntKind.i64.wrap (n : Int) = (n : Int) := IntWalk.i64_in _ (by omega)
  have hm : (¬ m < 0 ∧ m = k) ∨ (m < 0 ∧ k = 0) := by unfold Mo at hk; omega
  clear C hl hn hk hmx
  rcases hm with ⟨h0, rfl⟩ | ⟨h0, rfl⟩
  case' inl => have hmx : Max.max (k : Int) 0 = k := by omega
  case' inr => have hmx : Max.max m 0 = 0 := by omega
  all_goals
    go_enter Try.func20, Try.ntmps20
    go_wp2_with fail
    refine C1.out.mono ?_
    rintro e w1 ⟨rfl, hl1, hc1⟩
    have HL := Lib.hid hl1
    have HC := Lib.hid hc1
    clear hl1 hc1
    go_wp2_with fail
    refine (C2.out _ HL.out).mono ?_
    rintro e w2 ⟨rfl, hd, hc3⟩
    have HD := Lib.hid hd
    have HC2 := Lib.hid ((ChgP.ofSome HC.out).trans hc3)
    clear hd hc3
    go_wp2_with fail
    refine (C3.out _ HD.out).mono ?_
    rintro e w' ⟨rfl, rfl⟩
    go_wp2_with fail
    go_ret2
    exact ⟨rfl, HD.out, HC2.out⟩

set_option maxHeartbeats 4000000 in
theorem refTxt_err (p : Value) (m : Int) (k v : Nat) (e0 : Int) (w : World) (X : World → Prop) (hk : Mo m k) (he : e0 = 3 ∨ e0 = 4)
    (C : Calls Try.prog 21 #[p, .int .u64 k] w fun e w' => e = .returned (.tuple #[.int .u64 v, .int .i64 e0]) ∧ X w') :
    Calls Try.prog 22 #[p, .int .i64 m] w fun e w' => e = .returned (.tuple #[.slice none 0 0, .int .i64 e0]) ∧ X w' := by
  have C1 := Lib.hid C
  obtain ⟨hmx, hc, _⟩ := hk.max
  have hne : ¬ e0 = 0 := by omega
  have hm : (¬ m < 0 ∧ m = k) ∨ (m < 0 ∧ k = 0) := by unfold Mo at hk; omega
  clear C he hk hmx
  rcases hm with ⟨h0, rfl⟩ | ⟨h0, rfl⟩
  all_goals
    go_enter Try.func22, Try.ntmps22
    go_wp2_with fail
    refine C1.out.mono ?_
    rintro e w1 ⟨rfl, hx⟩
    have HX := Lib.hid hx
    clear hx
    go_wp2_with fail
    go_ret2
    exact ⟨rfl, HX.out⟩

set_option maxHeartbeats 4000000 in
theorem refTxt_yes (q : Nat) (A : Option Addr) (n c a N : Nat) (all : List UInt8) (m : Int) (k : Nat) (w : World) (hk : Mo m k) (hn : a + N ≤ n) (h3 : n ≤ 100000)
    (C : Calls Try.prog 21 #[.pointer (some ⟨q, 0, none⟩), .int .u64 k] w fun e w' => e = .returned (.tuple #[.int .u64 N, .int .i64 0]) ∧ RL w' q A n c a all ∧ Chg q w w') :
    Calls Try.prog 22 #[.pointer (some ⟨q, 0, none⟩), .int .i64 m] w fun e w' => ∃ A' c', e = .returned (.tuple #[.slice A' N c', .int .i64 0]) ∧ Rd w' A' ((all.drop a).take N) ∧ RL w' q A n c (a + N) all ∧ Chg q w w' := by
  have C1 := Lib.hid C
  have C2 := Lib.hid (fun w' (h : RL w' q A n c a all) => refTake_yes q A n c a N all w' h.blk h.len h.cap h.rd h.nil hn h.most)
  obtain ⟨hmx, hc, _⟩ := hk.max
  have hc2 : IntKind.i64.wrap (N : Int) = (N : Int) := IntWalk.i64_in _ (by omega)
  have hm : (¬ m < 0 ∧ m = k) ∨ (m < 0 ∧ k = 0) := by unfold Mo at hk; omega
  have HN := Lib.hid hn
  clear C hk hmx hn
  rcases hm with ⟨h0, rfl⟩ | ⟨h0, rfl⟩
  all_goals
    go_enter Try.func22, Try.ntmps22
    go_wp2_with fail
    refine C1.out.mono ?_
    rintro e w1 ⟨rfl, h1, hc1⟩
    have H1 := Lib.hid h1
    have HC1 := Lib.hid hc1
    clear h1 hc1
    go_wp2_with fail
    refine (C2.out _ H1.out).mono ?_
    rintro e w2 ⟨A', c', rfl, hr, hb, hc3⟩
    have HR := Lib.hid hr
    have HX := Lib.hid (H1.out.go hc3 hb HN.out)
    have HC := Lib.hid (HC1.out.trans hc3)
    have q2 := hb.cell 2
    simp at q2
    clear hr hb hc3
    go_wp2_with fail
    go_ret2
    exact ⟨_, _, rfl, HR.out, HX.out, HC.out⟩

set_option maxHeartbeats 4000000 in
theorem refTxt_no (q : Nat) (A : Option Addr) (n c a N : Nat) (all : List UInt8) (m : Int) (k : Nat) (w : World) (hk : Mo m k) (hn : n < a + N) (hnk : N ≤ k)
    (C : Calls Try.prog 21 #[.pointer (some ⟨q, 0, none⟩), .int .u64 k] w fun e w' => e = .returned (.tuple #[.int .u64 N, .int .i64 0]) ∧ RL w' q A n c a all ∧ Chg q w w') :
    Calls Try.prog 22 #[.pointer (some ⟨q, 0, none⟩), .int .i64 m] w fun e w' => e = .returned (.tuple #[.slice none 0 0, .int .i64 4]) ∧ RG w' q ∧ Chg q w w' := by
  have C1 := Lib.hid C
  have C2 := Lib.hid (fun w' (h : RL w' q A n c a all) => refTake_no q A n c a N w' h.blk h.at_ hn h.most)
  obtain ⟨hmx, hc, hk63⟩ := hk.max
  have e : (2 : Nat) ^ 63 = 9223372036854775808 := by decide
  have hc2 : IntKind.i64.wrap (N : Int) = (N : Int) := IntWalk.i64_in _ (by omega)
  have hm : (¬ m < 0 ∧ m = k) ∨ (m < 0 ∧ k = 0) := by unfold Mo at hk; omega
  clear C hk hmx hn hk63 e hnk
  rcases hm with ⟨h0, rfl⟩ | ⟨h0, rfl⟩
  all_goals
    go_enter Try.func22, Try.ntmps22
    go_wp2_with fail
    refine C1.out.mono ?_
    rintro e w1 ⟨rfl, h1, hc1⟩
    have H1 := Lib.hid h1
    have HC1 := Lib.hid hc1
    clear h1 hc1
    go_wp2_with fail
    refine (C2.out _ H1.out).mono ?_
    rintro e w2 ⟨rfl, hg, hc3⟩
    have HG := Lib.hid (show RG w2 q from hg)
    have HC := Lib.hid (HC1.out.trans hc3)
    obtain ⟨A', n', c', a', hb⟩ := hg
    have q2 := hb.cell 2
    simp at q2
    clear hb hc3
    go_wp2_with fail
    go_ret2
    exact ⟨rfl, HG.out, HC.out⟩
end Go.Proofs.Ytgmbdhpanhkfhaa
