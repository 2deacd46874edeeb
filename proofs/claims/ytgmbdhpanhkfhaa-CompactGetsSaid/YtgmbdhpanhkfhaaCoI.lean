/- Texts: what they return. -/
import Derived.Test.YtgmbdhpanhkfhaaCoG
namespace Go.Proofs.Ytgmbdhpanhkfhaa
open Go.RowKit Go.Lib Go.ChangeShapes Go.WideShapes

/-- The bound of a text, as Get is given it. -/
def Most (m : Int) (k : Nat) : Prop := (m = k ∧ k ≤ 1000000000) ∨ (m = -5 ∧ k = 0)

set_option maxHeartbeats 2000000 in
theorem text_err (p : Value) (m : Int) (k v : Nat) (e0 : Int) (w : World) (X : World → Prop) (hk : Most m k) (he : e0 = 3 ∨ e0 = 4)
    (C : Calls Try.prog 18 #[p, .int .u64 k] w fun e w' => e = .returned (.tuple #[.int .u64 v, .int .i64 e0]) ∧ X w') :
    Calls Try.prog 20 #[p, .int .i64 m] w fun e w' => e = .returned (.tuple #[.slice none 0 0, .int .i64 e0]) ∧ X w' := by
  have C1 := Lib.hid C
  have hc : IntKind.u64.wrap (k : Int) = (k : Int) := IntWalk.u64_in _ (by rcases hk with ⟨_, h⟩ | ⟨_, h⟩ <;> omega)
  have hne : ¬ e0 = 0 := by omega
  clear C he
  rcases hk with ⟨rfl, h⟩ | ⟨rfl, rfl⟩
  · have hmx : max (k : Int) 0 = k := by omega
    go_enter Try.func20, Try.ntmps20
    go_wp2_with fail
    refine C1.out.mono ?_
    rintro e w1 ⟨rfl, hx⟩
    have HX := Lib.hid hx
    clear hx
    go_wp2_with fail
    go_ret2
    exact ⟨rfl, HX.out⟩
  · skip
    go_enter Try.func20, Try.ntmps20
    go_wp2_with fail
    refine C1.out.mono ?_
    rintro e w1 ⟨rfl, hx⟩
    have HX := Lib.hid hx
    clear hx
    go_wp2_with fail
    go_ret2
    exact ⟨rfl, HX.out⟩

/-- It returns these bytes and no error; the reader holds those. -/
def TextRet (n : Nat) (l1 : List UInt8) (g : Nat) (l2 : List UInt8) (w : World) (e : Ending) (w' : World) : Prop :=
  ∃ A c, e = .returned (.tuple #[.slice A n c, .int .i64 0]) ∧ Rd w' A l1 ∧ Live w' g l2 ∧ Chg g w w'

set_option maxHeartbeats 2000000 in
theorem text_yes (g : Nat) (m : Int) (k n : Nat) (l : List UInt8) (w : World) (hk : Most m k) (hl : l.length ≤ 1000000000) (hn : n ≤ l.length)
    (C : Calls Try.prog 18 #[.pointer (some ⟨g, 0, none⟩), .int .u64 k] w (GetRet n 0 g l w)) :
    Calls Try.prog 20 #[.pointer (some ⟨g, 0, none⟩), .int .i64 m] w (TextRet n (l.take n) g (l.drop n) w) := by
  have C1 := Lib.hid C
  have C2 := Lib.hid (fun w' (h : Live w' g l) => take_yes g l n w' h hl hn)
  have C3 := Lib.hid (fun w' (h : Live w' g (l.drop n)) => torn_live g (l.drop n) w' h (by rw [List.length_drop]; omega))
  have hc : IntKind.u64.wrap (k : Int) = (k : Int) := IntWalk.u64_in _ (by rcases hk with ⟨_, h⟩ | ⟨_, h⟩ <;> omega)
  have hc2 : IntKind.i64.wrap (n : Int) = (n : Int) := IntWalk.i64_in _ (by omega)
  have HLN := Lib.hid (show (l.take n).length = n by rw [List.length_take]; omega)
  clear C hl hn
  rcases hk with ⟨rfl, h⟩ | ⟨rfl, rfl⟩
  · have hmx : max (k : Int) 0 = k := by omega
    go_enter Try.func20, Try.ntmps20
    go_wp2_with fail
    refine C1.out.mono ?_
    rintro e w1 ⟨rfl, hl1, hc1⟩
    have HL := Lib.hid hl1
    have HC := Lib.hid hc1
    clear hl1 hc1
    go_wp2_with fail
    refine (C2.out _ HL.out).mono ?_
    rintro e w2 ⟨A, c, rfl, hr, _, hl2, hc3⟩
    rw [HLN.out]
    have HL2 := Lib.hid hl2
    have HR := Lib.hid hr
    have HC2 := Lib.hid (HC.out.trans hc3)
    clear hl2 hc3 hr
    go_wp2_with fail
    refine (C3.out _ HL2.out).mono ?_
    rintro e w' ⟨rfl, rfl⟩
    go_wp2_with fail
    go_ret2
    exact ⟨_, _, rfl, HR.out, HL2.out, HC2.out⟩
  · skip
    go_enter Try.func20, Try.ntmps20
    go_wp2_with fail
    refine C1.out.mono ?_
    rintro e w1 ⟨rfl, hl1, hc1⟩
    have HL := Lib.hid hl1
    have HC := Lib.hid hc1
    clear hl1 hc1
    go_wp2_with fail
    refine (C2.out _ HL.out).mono ?_
    rintro e w2 ⟨A, c, rfl, hr, _, hl2, hc3⟩
    rw [HLN.out]
    have HL2 := Lib.hid hl2
    have HR := Lib.hid hr
    have HC2 := Lib.hid (HC.out.trans hc3)
    clear hl2 hc3 hr
    go_wp2_with fail
    refine (C3.out _ HL2.out).mono ?_
    rintro e w' ⟨rfl, rfl⟩
    go_wp2_with fail
    go_ret2
    exact ⟨_, _, rfl, HR.out, HL2.out, HC2.out⟩

/-- It returns nothing and an error; the reader tells nothing any more. -/
def TextTorn (p : Option Addr) (w : World) (e : Ending) (w' : World) : Prop := e = .returned (.tuple #[.slice none 0 0, .int .i64 4]) ∧ Dead w' p ∧ ChgP p w w'

set_option maxHeartbeats 2000000 in
theorem text_no (g : Nat) (k n : Nat) (l : List UInt8) (w : World) (hk : k ≤ 1000000000) (hl : l.length ≤ 1000000000) (hn : ¬ n ≤ l.length) (hnk : n ≤ k)
    (C : Calls Try.prog 18 #[.pointer (some ⟨g, 0, none⟩), .int .u64 k] w (GetRet n 0 g l w)) :
    Calls Try.prog 20 #[.pointer (some ⟨g, 0, none⟩), .int .i64 k] w (TextTorn (some ⟨g, 0, none⟩) w) := by
  have C1 := Lib.hid C
  have C2 := Lib.hid (fun w' (h : Live w' g l) => take_no g l n w' h hl (by omega))
  have C3 := Lib.hid (fun w' (h : Dead w' (some ⟨g, 0, none⟩)) => torn_dead (some ⟨g, 0, none⟩) w' h)
  have hc : IntKind.u64.wrap (k : Int) = (k : Int) := IntWalk.u64_in _ (by omega)
  have hc2 : IntKind.i64.wrap (n : Int) = (n : Int) := IntWalk.i64_in _ (by omega)
  have hmx : max (k : Int) 0 = k := by omega
  clear C hl hn
  go_enter Try.func20, Try.ntmps20
  go_wp2_with fail
  refine C1.out.mono ?_
  rintro e w1 ⟨rfl, hl1, hc1⟩
  have HL := Lib.hid hl1
  have HC := Lib.hid hc1
  clear hl1 hc1
  go_wp2_with fail
  refine (C2.out _ HL.out).mono ?_
  rintro e w2 ⟨rfl, hd, hc3⟩
  have HD := Lib.hid hd
  have HC2 := Lib.hid ((ChgP.ofSome HC.out).trans hc3)
  clear hd hc3
  go_wp2_with fail
  refine (C3.out _ HD.out).mono ?_
  rintro e w' ⟨rfl, rfl⟩
  go_wp2_with fail
  go_ret2
  exact ⟨rfl, HD.out, HC2.out⟩
end Go.Proofs.Ytgmbdhpanhkfhaa
