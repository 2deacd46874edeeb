/- The reader of bytes: what it holds; whether so many can be taken; taking. -/
import Derived.Test.YtgmbdhpanhkfhaaByA
namespace Go.Proofs.Ytgmbdhpanhkfhaa
open Go.RowKit Go.Lib

/-- Nothing has turned but block g and new ones. -/
structure Chg (g : Nat) (w w' : World) : Prop where
  bel : ∀ w0 B, B ≤ g → Below B w0 w → Below B w0 w'
  size : w.heap.size ≤ w'.heap.size
  block : ∀ b, b < w.heap.size → b ≠ g → w'.heap[b]? = w.heap[b]?
theorem Chg.refl (g : Nat) (w : World) : Chg g w w := ⟨fun _ _ _ h => h, Nat.le_refl _, fun _ _ _ => rfl⟩
theorem Chg.trans {g : Nat} {a b c : World} (h : Chg g a b) (k : Chg g b c) : Chg g a c :=
  ⟨fun w0 B hB h0 => k.bel w0 B hB (h.bel w0 B hB h0), Nat.le_trans h.size k.size, fun x hx hne => (k.block x (by have := h.size; omega) hne).trans (h.block x hx hne)⟩
theorem Chg.below {g : Nat} {a b : World} (hg : g < a.heap.size) (h : Below a.heap.size a b) : Chg g a b :=
  ⟨fun _ _ hB h0 => h0.trans (h.mono (by omega)), h.size, fun x hx _ => h.block x hx⟩
theorem Chg.set (w : World) (g i : Nat) (u : Value) : Chg g w (w.setCell ⟨g, i, none⟩ u) :=
  ⟨fun _ _ hB h0 => h0.setCell hB u, by simp, fun x _ hne => Below.heap_setCell w _ u x hne⟩
theorem Chg.drew {g : Nat} {a b : World} (h : Chg g a b) : Chg g a b.drew := ⟨fun w0 B hB h0 => (h.bel w0 B hB h0).drew, h.size, h.block⟩
theorem IsBlk.chg {g g' : Nat} {w w' : World} {t : TypeId} {cs : Array Value} (h : IsBlk w g t cs) (k : Chg g' w w') (hne : g ≠ g') : IsBlk w' g t cs := (k.block g h.lt hne).trans h
theorem Rd.chg {g : Nat} {w w' : World} {A : Option Addr} {l : List UInt8} (h : Rd w A l) (k : Chg g w w') (hne : ∀ ad : Addr, A = some ad → ad.block ≠ g) : Rd w' A l :=
  h.keep k.size fun ad e p hp hl => World.cell?_of_block (k.block p.block hl (by rw [hp]; exact hne ad e))
theorem Own.chg {g base : Nat} {w w' : World} {v : Value} {l : List UInt8} (h : Own w base v l) (k : Chg g w w') (hne : v.ownBlock ≠ some g) : Own w' base v l :=
  h.blk fun x hx => k.block x (World.ownsRow.lt h x hx).2 (fun e => hne (by rw [hx, e]))

/-- A reader that holds these bytes. -/
def Live (w : World) (g : Nat) (l : List UInt8) : Prop :=
  ∃ A c, IsBlk w g 54 #[.slice A l.length c, .bool true, .bool false] ∧ l.length ≤ c ∧ Rd w A l ∧ (A = none → c = 0) ∧ ∀ ad : Addr, A = some ad → ad.block ≠ g
/-- A reader that tells nothing: none, one that was not opened, a torn one. -/
def Dead (w : World) (p : Option Addr) : Prop :=
  p = none ∨ ∃ g A n c made torn, p = some ⟨g, 0, none⟩ ∧ IsBlk w g 54 #[.slice A n c, .bool made, .bool torn] ∧ (made && !torn) = false
/-- What a reader's method may turn. -/
def ChgP (p : Option Addr) (w w' : World) : Prop := (p = none → Below w.heap.size w w') ∧ ∀ g, p = some ⟨g, 0, none⟩ → Chg g w w'
theorem ChgP.ofSome {g : Nat} {w w' : World} (h : Chg g w w') : ChgP (some ⟨g, 0, none⟩) w w' := ⟨(fun e => by cases e), (fun g' e => by injection e with e; injection e with e; subst e; exact h)⟩
theorem ChgP.ofNone {w w' : World} (h : Below w.heap.size w w') : ChgP none w w' := ⟨(fun _ => h), (fun g e => by cases e)⟩
theorem ChgP.trans {p : Option Addr} {a b c : World} (h : ChgP p a b) (k : ChgP p b c) : ChgP p a c := ⟨fun e => bel_on (h.1 e) (k.1 e), fun g e => (h.2 g e).trans (k.2 g e)⟩

theorem Live.lt {w : World} {g : Nat} {l : List UInt8} (h : Live w g l) : g < w.heap.size := by
  obtain ⟨A, c, h1, _⟩ := h
  exact h1.lt
theorem Live.after {w w' : World} {g : Nat} {l : List UInt8} (h : Live w g l) (hb : Below w.heap.size w w') : Live w' g l := by
  obtain ⟨A, c, h1, h2, h3, h4, h5⟩ := h
  exact ⟨A, c, h1.after hb, h2, h3.after hb, h4, h5⟩
theorem Dead.after {w w' : World} {p : Option Addr} (h : Dead w p) (hb : Below w.heap.size w w') : Dead w' p := by
  rcases h with h | ⟨g, A, n, c, made, torn, rfl, h1, h2⟩
  · exact .inl h
  · exact .inr ⟨g, A, n, c, made, torn, rfl, h1.after hb, h2⟩

set_option maxHeartbeats 1000000 in
theorem may_live (g : Nat) (l : List UInt8) (n : Int) (w : World) (h : Live w g l) (hl : l.length ≤ 1000000000) :
    Calls Try.prog 29 #[.pointer (some ⟨g, 0, none⟩), .int .i64 n] w fun e w' => e = .returned (.bool (decide (0 ≤ n) && decide (n ≤ l.length))) ∧ w = w' := by
  obtain ⟨A, c, h1, h2, h3, h4, h5⟩ := h
  have r0 := h1.cell 0
  have r1 := h1.cell 1
  have r2 := h1.cell 2
  simp at r0 r1 r2
  clear h1 h2 h3 h4 h5
  by_cases hn : 0 ≤ n
  · by_cases hm : n ≤ l.length
    · have e1 : (decide (0 ≤ n) && decide (n ≤ l.length)) = true := by simp [hn, hm]
      rw [e1]
      clear e1
      go_enter Try.func29, Try.ntmps29
      go_wp2_with fail
      go_ret
      exact ⟨rfl, rfl⟩
    · have e1 : (decide (0 ≤ n) && decide (n ≤ l.length)) = false := by simp [hm]
      rw [e1]
      clear e1
      go_enter Try.func29, Try.ntmps29
      go_wp2_with fail
      go_ret
      exact ⟨rfl, rfl⟩
  · have e1 : (decide (0 ≤ n) && decide (n ≤ l.length)) = false := by simp [hn]
    rw [e1]
    clear e1
    go_enter Try.func29, Try.ntmps29
    go_wp2_with fail
    go_ret
    exact ⟨rfl, rfl⟩

set_option maxHeartbeats 1000000 in
theorem may_dead (p : Option Addr) (n : Int) (w : World) (h : Dead w p) :
    Calls Try.prog 29 #[.pointer p, .int .i64 n] w fun e w' => e = .returned (.bool false) ∧ w = w' := by
  rcases h with rfl | ⟨g, A, m, c, made, torn, rfl, h1, h2⟩
  · skip
    go_enter Try.func29, Try.ntmps29
    go_wp2_with fail
    go_ret
    exact ⟨rfl, rfl⟩
  · have r0 := h1.cell 0
    have r1 := h1.cell 1
    have r2 := h1.cell 2
    simp at r0 r1 r2
    clear h1
    cases made
    · clear h2
      go_enter Try.func29, Try.ntmps29
      go_wp2_with fail
      go_ret
      exact ⟨rfl, rfl⟩
    · cases torn
      · simp at h2
      · clear h2
        go_enter Try.func29, Try.ntmps29
        go_wp2_with fail
        go_ret
        exact ⟨rfl, rfl⟩

/-- It returns these bytes; the reader holds those. -/
def TakeRet (l1 : List UInt8) (g : Nat) (l2 : List UInt8) (w : World) (e : Ending) (w' : World) : Prop :=
  ∃ A c, e = .returned (.slice A l1.length c) ∧ Rd w' A l1 ∧ (A = none → c = 0) ∧ Live w' g l2 ∧ Chg g w w'
/-- It returns v; the reader tells nothing any more. -/
def TornRet (v : Value) (p : Option Addr) (w : World) (e : Ending) (w' : World) : Prop := e = .returned v ∧ Dead w' p ∧ ChgP p w w'

theorem TakeRet.mk {l1 l2 : List UInt8} {g : Nat} {w w' : World} {A : Option Addr} {n c : Nat} (hn : n = l1.length) (h : Rd w' A l1) (h0 : A = none → c = 0) (hl : Live w' g l2) (hc : Chg g w w') : TakeRet l1 g l2 w (.returned (.slice A n c)) w' := by
  subst hn
  exact ⟨A, c, rfl, h, h0, hl, hc⟩
theorem live_set {w : World} {g m2 c2 : Nat} {x : Value} {A2 : Option Addr} {l2 : List UInt8} (h : IsBlk w g 54 #[x, .bool true, .bool false]) (hr : Rd w A2 l2) (hm : m2 = l2.length) (hc : l2.length ≤ c2) (h0 : A2 = none → c2 = 0) (hne : ∀ ad : Addr, A2 = some ad → ad.block ≠ g) :
    Live (w.setCell ⟨g, 0, none⟩ (.slice A2 m2 c2)) g l2 := by
  subst hm
  exact ⟨A2, c2, h.put 0 _, hc, hr.setCell hne _, h0, hne⟩

set_option maxHeartbeats 2000000 in
theorem take_yes (g : Nat) (l : List UInt8) (n : Nat) (w : World) (h : Live w g l) (hl : l.length ≤ 1000000000) (hn : n ≤ l.length) :
    Calls Try.prog 30 #[.pointer (some ⟨g, 0, none⟩), .int .i64 n] w (TakeRet (l.take n) g (l.drop n) w) := by
  have C := Lib.hid (may_live g l n w h hl)
  have e1 : (decide ((0 : Int) ≤ n) && decide ((n : Int) ≤ l.length)) = true := by simp [hn]
  rw [e1] at C
  clear e1
  obtain ⟨A, c, h1, h2, h3, h4, h5⟩ := h
  have r0 := h1.cell 0
  simp at r0
  have fr := h1.free
  have lt := h1.lt
  have H1 := Lib.hid h1
  have H3 := Lib.hid h3
  have H4 := Lib.hid h4
  have H5 := Lib.hid h5
  clear h1 h3 h4 h5
  go_enter Try.func30, Try.ntmps30
  go_wp2_with fail
  refine C.out.mono ?_
  rintro e w' ⟨rfl, rfl⟩
  go_wp2_with fail
  · have hcn : c = n := by assumption
    have hd : l.drop n = [] := List.drop_eq_nil_of_le (by omega)
    go_ret
    refine TakeRet.mk (by rw [List.length_take]; omega) ((H3.out.take n).setCell H5.out _) (fun h => by have := H4.out h; omega) (live_set H1.out ?_ (by simp) (by rw [hd]; simp) (fun _ => rfl) H5.out) (Chg.set _ _ _ _)
    rw [hd]
    exact Rd.nil _ _
  · have hcn : ¬ c = n := by assumption
    have hrd := H3.out.drop (k := n) h2
    rw [if_neg hcn] at hrd
    go_ret
    refine TakeRet.mk (by rw [List.length_take]; omega) ((H3.out.take n).setCell H5.out _) (fun h => by have := H4.out h; omega) (live_set H1.out hrd (by simp) (by simp; omega) (fun h => ?_) (fun ad h => ?_)) (Chg.set _ _ _ _)
    · have := H4.out (by simpa using h); omega
    · obtain ⟨ad', h1, rfl⟩ := Option.map_eq_some_iff.1 h
      rw [addr_block]
      exact H5.out ad' h1

set_option maxHeartbeats 2000000 in
theorem take_no (g : Nat) (l : List UInt8) (n : Int) (w : World) (h : Live w g l) (hl : l.length ≤ 1000000000) (hn : ¬ (0 ≤ n ∧ n ≤ l.length)) :
    Calls Try.prog 30 #[.pointer (some ⟨g, 0, none⟩), .int .i64 n] w (TornRet (.slice none 0 0) (some ⟨g, 0, none⟩) w) := by
  have C := Lib.hid (may_live g l n w h hl)
  have e1 : (decide ((0 : Int) ≤ n) && decide ((n : Int) ≤ l.length)) = false := by
    by_cases h1 : 0 ≤ n
    · have : ¬ n ≤ l.length := fun h2 => hn ⟨h1, h2⟩
      simp [this]
    · simp [h1]
  rw [e1] at C
  clear e1 hn
  obtain ⟨A, c, h1, h2, h3, h4, h5⟩ := h
  have r2 := h1.cell 2
  simp at r2
  have fr := h1.free
  have lt := h1.lt
  have H1 := Lib.hid h1
  have hq : ∀ w, (binOp .neq 31 (.pointer (some ⟨g, 0, none⟩)) (.pointer none)).run Try.prog w = .ok (.bool true) w := fun w => by kernel_rfl
  clear h1 h3 h4 h5
  go_enter Try.func30, Try.ntmps30
  go_wp2_with fail
  refine C.out.mono ?_
  rintro e w' ⟨rfl, rfl⟩
  go_wp2_with fail
  go_ret
  exact ⟨rfl, .inr ⟨g, _, _, _, true, true, rfl, H1.out.put 2 _, rfl⟩, .ofSome (Chg.set _ _ _ _)⟩

set_option maxHeartbeats 2000000 in
theorem take_dead (p : Option Addr) (n : Int) (w : World) (h : Dead w p) :
    Calls Try.prog 30 #[.pointer p, .int .i64 n] w (TornRet (.slice none 0 0) p w) := by
  have C := Lib.hid (may_dead p n w h)
  rcases h with rfl | ⟨g, A, m, c, made, torn, rfl, h1, h2⟩
  · have hq : ∀ w, (binOp .neq 31 (.pointer none) (.pointer none)).run Try.prog w = .ok (.bool false) w := fun w => by kernel_rfl
    go_enter Try.func30, Try.ntmps30
    go_wp2_with fail
    refine C.out.mono ?_
    rintro e w' ⟨rfl, rfl⟩
    go_wp2_with fail
    go_ret
    exact ⟨rfl, .inl rfl, .ofNone (Below.refl _ _)⟩
  · have r2 := h1.cell 2
    simp at r2
    have fr := h1.free
    have lt := h1.lt
    have H1 := Lib.hid h1
    have hq : ∀ w, (binOp .neq 31 (.pointer (some ⟨g, 0, none⟩)) (.pointer none)).run Try.prog w = .ok (.bool true) w := fun w => by kernel_rfl
    clear h1 h2
    go_enter Try.func30, Try.ntmps30
    go_wp2_with fail
    refine C.out.mono ?_
    rintro e w' ⟨rfl, rfl⟩
    go_wp2_with fail
    go_ret
    exact ⟨rfl, .inr ⟨g, _, _, _, made, true, rfl, H1.out.put 2 _, by cases made <;> rfl⟩, .ofSome (Chg.set _ _ _ _)⟩

set_option maxHeartbeats 1000000 in
theorem left_live (g : Nat) (l : List UInt8) (w : World) (h : Live w g l) (hl : l.length ≤ 1000000000) : Calls Try.prog 19 #[.pointer (some ⟨g, 0, none⟩)] w fun e w' => e = .returned (.int .i64 l.length) ∧ w = w' := by
  have C := Lib.hid (may_live g l 0 w h hl)
  have e1 : (decide ((0 : Int) ≤ 0) && decide ((0 : Int) ≤ l.length)) = true := by simp
  rw [e1] at C
  obtain ⟨A, c, h1, _⟩ := h
  have r0 := h1.cell 0
  simp at r0
  clear h1 e1
  go_enter Try.func19, Try.ntmps19
  go_wp2_with fail
  refine C.out.mono ?_
  rintro e w' ⟨rfl, rfl⟩
  go_wp2_with fail
  go_ret
  exact ⟨rfl, rfl⟩
set_option maxHeartbeats 1000000 in
theorem left_dead (p : Option Addr) (w : World) (h : Dead w p) : Calls Try.prog 19 #[.pointer p] w fun e w' => e = .returned (.int .i64 0) ∧ w = w' := by
  have C := Lib.hid (may_dead p 0 w h)
  clear h
  go_enter Try.func19, Try.ntmps19
  go_wp2_with fail
  refine C.out.mono ?_
  rintro e w' ⟨rfl, rfl⟩
  go_wp2_with fail
  go_ret
  exact ⟨rfl, rfl⟩
set_option maxHeartbeats 1000000 in
theorem torn_live (g : Nat) (l : List UInt8) (w : World) (h : Live w g l) (hl : l.length ≤ 1000000000) : Calls Try.prog 24 #[.pointer (some ⟨g, 0, none⟩)] w fun e w' => e = .returned (.bool false) ∧ w = w' := by
  have C := Lib.hid (may_live g l 0 w h hl)
  have e1 : (decide ((0 : Int) ≤ 0) && decide ((0 : Int) ≤ l.length)) = true := by simp
  rw [e1] at C
  clear e1 h
  go_enter Try.func24, Try.ntmps24
  go_wp2_with fail
  refine C.out.mono ?_
  rintro e w' ⟨rfl, rfl⟩
  go_wp2_with fail
  go_ret
  exact ⟨rfl, rfl⟩
set_option maxHeartbeats 1000000 in
theorem torn_dead (p : Option Addr) (w : World) (h : Dead w p) : Calls Try.prog 24 #[.pointer p] w fun e w' => e = .returned (.bool true) ∧ w = w' := by
  have C := Lib.hid (may_dead p 0 w h)
  clear h
  go_enter Try.func24, Try.ntmps24
  go_wp2_with fail
  refine C.out.mono ?_
  rintro e w' ⟨rfl, rfl⟩
  go_wp2_with fail
  go_ret
  exact ⟨rfl, rfl⟩
end Go.Proofs.Ytgmbdhpanhkfhaa
