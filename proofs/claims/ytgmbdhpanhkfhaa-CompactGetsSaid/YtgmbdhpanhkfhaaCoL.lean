/- The document's reader: taking. -/
import Derived.Test.YtgmbdhpanhkfhaaCoI
import Derived.Test.YtgmbdhpanhkfhaaSeq
import Derived.Test.YtgmbdhpanhkfhaaMix
namespace Go.Proofs.Ytgmbdhpanhkfhaa
open Go.RowKit Go.Lib Go.ChangeShapes Go.WideShapes

/-- An append in a region that draws its order, when it alone is ready. -/
theorem Held.append {ops : Array Oper} {Q : Exit → Act → World → Prop} {S : World → Prop} {i n : Nat} {o : Oper} {listed : Array Bool} {a : Act} (hi : opAt ops.toList i = some o) (hrd : Region.ready .any ops listed = [i])
    (hw : Region.wanted o (yielded ops a.tmps) = true) (s x : Operand) (ho : o.op = .call { callee := .builtin .append, args := #[s, x], argTypes := #[23, 23] })
    (base : Nat) (v : Value) (l : List UInt8) (hs : a.eval s = v) (A : Option Addr) (m c : Nat) (r : List UInt8) (hx : a.eval x = .slice A m c) (hn : m = r.length)
    (hf : ∀ w, S w → Own w base v l ∧ Rd w A r ∧ base ≤ w.heap.size) (hlen : l.length + r.length ≤ 140737488355328) (N : Nat) (hN : l.length + r.length = N) (L : List UInt8) (hL : l ++ r = L)
    (h : ∀ w, S w → ∀ A' c' w', Own w' base (.slice A' N c') L → w.grownBy w' v.ownBlock → (A' = none → c' = 0) →
      ∃ S' : World → Prop, S' w' ∧ (∀ w, S' w → S w) ∧ Held Try.prog ops Q S' n (listed.setIfInBounds i true) (a.put o.dst (.slice A' N c'))) : Held Try.prog ops Q S (n + 1) listed a := by
  rw [opAt_eq, Array.getElem?_toList] at hi
  intro w hS
  refine wpAnyH_all hrd (by simp) fun j hj => ?_
  simp only [List.mem_singleton] at hj
  subst hj
  unfold wpOp
  simp only [hi]
  rw [if_pos hw]
  refine .inl ?_
  obtain ⟨hown, hr, hbase⟩ := hf w hS
  obtain ⟨i, hi, hz0, hz1, hz2⟩ := info_parts u8_info
  subst hn
  obtain ⟨v', w', hrun, h2, h3⟩ := run_append_rd (P := Try.prog) w base 23 o.type 5 i Try.underlying23 hi hz0 hz1 hz2 v l hown A c r hr hlen hbase
  obtain ⟨A', c', rfl, hnn⟩ := Own.shape h2
  unfold Oper.wp execOp
  simp only [ho, resolve, invoke, builtin, Sem.run_bind, Sem.run_pure, Result.andThen_ok, List.map_toArray, List.map_cons, List.map_nil, hs, hx, hrun]
  have e : (l ++ r).length = l.length + r.length := List.length_append
  have h4 : Own w' base (.slice A' N c') L := by rw [← hN, ← e, ← hL]; exact h2
  rw [e, hN]
  obtain ⟨S', g1, g2, g3⟩ := h w hS A' c' w' h4 h3 hnn
  exact ⟨g2 w' g1, wpAnyH_mono g2 _ _ _ _ (g3 w' g1)⟩

theorem Own.far {w : World} {base n c q : Nat} {A : Option Addr} {l : List UInt8} (h : Own w base (.slice A n c) l) (hq : q < base) : ∀ ad : Addr, A = some ad → ad.block ≠ q := by
  intro ad e
  rcases h.2 with ⟨hv, _⟩ | ⟨g, cap, cur, hv, hb, _⟩
  · injection hv with h1
    rw [h1] at e
    cases e
  · injection hv with h1
    rw [h1] at e
    injection e with e
    subst e
    show g ≠ q
    omega

/-- The document's reader. -/
abbrev RB (w : World) (q : Nat) (A : Option Addr) (n c at_ : Nat) (gone : Bool) : Prop := IsBlk w q 43 #[.slice A n c, .int .i64 (at_ : Nat), .bool gone]

set_option maxRecDepth 100000 in
set_option maxHeartbeats 4000000 in
theorem refTake_yes (q : Nat) (A : Option Addr) (n c at_ k : Nat) (all : List UInt8) (w : World) (hb : RB w q A n c at_ false) (hn : all.length = n) (hnc : n ≤ c) (hr : Rd w A all) (h0 : A = none → c = 0) (hk : at_ + k ≤ n) (hn3 : n ≤ 100000) :
    Calls Try.prog 32 #[.pointer (some ⟨q, 0, none⟩), .int .i64 k] w fun e w' => ∃ A' c', e = .returned (.slice A' k c') ∧ Rd w' A' ((all.drop at_).take k) ∧ RB w' q A n c (at_ + k) false ∧ Chg q w w' := by
  have KD := Lib.hid (fun w => works_any w)
  have e1 : IntKind.i64.wrap ((n : Int) - (at_ : Int)) = (n : Int) - (at_ : Int) := IntWalk.i64_in _ (by omega)
  obtain ⟨m, hm⟩ : ∃ m, m = at_ + k := ⟨_, rfl⟩
  have e2 : IntKind.i64.wrap ((at_ : Int) + (k : Int)) = (m : Int) := by rw [IntWalk.i64_in _ (by omega)]; omega
  have hm0 : (0 : Int) ≤ m := by omega
  have hm2 : at_ ≤ m := by omega
  have hm3 : m - at_ = k := by omega
  rw [← hm]
  obtain ⟨seg, hseg⟩ : ∃ seg, seg = (all.drop at_).take k := ⟨_, rfl⟩
  rw [← hseg]
  have t1 : ¬ ((n : Int) - (at_ : Int) < (k : Int)) := by omega
  have t2 : ¬ ((k : Int) < 0) := by omega
  have hac : at_ ≤ c := by omega
  have hm1 : (m : Int) ≤ c := by omega
  have HR := Lib.hid hr
  have HB := Lib.hid hb
  have HN := Lib.hid hn
  have HNC := Lib.hid hnc
  have hlt := hb.lt
  have HK := Lib.hid (show seg.length = k by rw [hseg, List.length_take, List.length_drop]; omega)
  clear hr hb hn hm hk
  go_enter Try.func32, Try.ntmps32
  go_wp2_with fail
  refine wp_region_seq (S := fun w' => RB w' q A n c at_ false ∧ Below w.heap.size w w') (by kernel_rfl) (by kernel_rfl) ⟨HB.out.drew, (Below.refl _ _).drew⟩ ?_
  have HST := Lib.hid (show ∀ w1' w2', (RB w1' q A n c at_ false ∧ Below w.heap.size w w1') → Below w1'.heap.size w1' w2' → (RB w2' q A n c at_ false ∧ Below w.heap.size w w2') from fun _ _ h hb => ⟨h.1.after hb, bel_on h.2 hb⟩)
  repeat (first
    | (refine SeqS.skip ?_ ?_; rfl; (try simp only [Act.put, List.setIfInBounds_toArray, List.set_cons_zero, List.set_cons_succ]))
    | (refine SeqS.take (v := ?_) ?_ ?_ ?_; rotate_left; rfl; (intro w hS; have q0 := hS.1.cell 0; have q1 := hS.1.cell 1; have q2 := hS.1.cell 2; simp at q0 q1 q2; go_simp; with_reducible rfl); (try simp only [Act.put, List.setIfInBounds_toArray, List.set_cons_zero, List.set_cons_succ]))
    | (refine SeqS.call (v := ?_) (f := ?_) (args := ?_) ?_ ?_ ?_ ?_; rotate_left 3; rfl; (intro w hS; have q0 := hS.1.cell 0; have q1 := hS.1.cell 1; have q2 := hS.1.cell 2; simp at q0 q1 q2; go_simp; (first | with_reducible rfl | (refine ⟨?_, ?_⟩ <;> with_reducible rfl))); (intro w hS; first | ((with_reducible refine (KD.out _).mono ?_); rintro e w' ⟨rfl, hb⟩; refine ⟨?_, HST.out _ _ hS hb⟩; with_reducible rfl)); (try simp only [Act.put, List.setIfInBounds_toArray, List.set_cons_zero, List.set_cons_succ])))
  refine SeqS.done ?_
  rintro wz ⟨hbz, hwz⟩
  go_wp2_with fail
  have HBZ := Lib.hid hbz
  have HWZ := Lib.hid hwz
  clear hbz hwz HST
  have HSEG := Lib.hid (fun w' (h : Ext wz w') => ((HR.out.after HWZ.out).after h).drop (k := at_) (c := c) (by rw [HN.out]; exact HNC.out) |>.take k)
  rw [← hseg] at HSEG
  clear hseg
  refine Held.start 18 (Ext wz) (by kernel_rfl) rfl (Below.refl _ _).drew ?_
  by_cases hca : c = at_
  case' pos =>
    rw [if_pos hca] at HSEG
    have hm4 : (m : Int) ≤ at_ := by omega
  case' neg =>
    rw [if_neg hca] at HSEG
    have hm4 := hm1
  all_goals
    (first | (refine Held.skip (i := 0) rfl (by kernel_rfl) (fun _ _ _ h => h) rfl ?_; (try simp only [Act.put, List.setIfInBounds_toArray, List.set_cons_zero, List.set_cons_succ])) | (refine Held.take (i := 0) (v := ?_) rfl (by kernel_rfl) (fun _ _ _ h => h) rfl ?_ ?_; rotate_left; (intro w hS; have q0 := (HBZ.out.after hS).cell 0; have q1 := (HBZ.out.after hS).cell 1; simp at q0 q1; go_simp; with_reducible rfl); (try simp only [Act.put, List.setIfInBounds_toArray, List.set_cons_zero, List.set_cons_succ])))
    (first | (refine Held.skip (i := 1) rfl (by kernel_rfl) (fun _ _ _ h => h) rfl ?_; (try simp only [Act.put, List.setIfInBounds_toArray, List.set_cons_zero, List.set_cons_succ])) | (refine Held.take (i := 1) (v := ?_) rfl (by kernel_rfl) (fun _ _ _ h => h) rfl ?_ ?_; rotate_left; (intro w hS; have q0 := (HBZ.out.after hS).cell 0; have q1 := (HBZ.out.after hS).cell 1; simp at q0 q1; go_simp; with_reducible rfl); (try simp only [Act.put, List.setIfInBounds_toArray, List.set_cons_zero, List.set_cons_succ])))
    (first | (refine Held.skip (i := 2) rfl (by kernel_rfl) (fun _ _ _ h => h) rfl ?_; (try simp only [Act.put, List.setIfInBounds_toArray, List.set_cons_zero, List.set_cons_succ])) | (refine Held.take (i := 2) (v := ?_) rfl (by kernel_rfl) (fun _ _ _ h => h) rfl ?_ ?_; rotate_left; (intro w hS; have q0 := (HBZ.out.after hS).cell 0; have q1 := (HBZ.out.after hS).cell 1; simp at q0 q1; go_simp; with_reducible rfl); (try simp only [Act.put, List.setIfInBounds_toArray, List.set_cons_zero, List.set_cons_succ])))
    (first | (refine Held.skip (i := 3) rfl (by kernel_rfl) (fun _ _ _ h => h) rfl ?_; (try simp only [Act.put, List.setIfInBounds_toArray, List.set_cons_zero, List.set_cons_succ])) | (refine Held.take (i := 3) (v := ?_) rfl (by kernel_rfl) (fun _ _ _ h => h) rfl ?_ ?_; rotate_left; (intro w hS; have q0 := (HBZ.out.after hS).cell 0; have q1 := (HBZ.out.after hS).cell 1; simp at q0 q1; go_simp; with_reducible rfl); (try simp only [Act.put, List.setIfInBounds_toArray, List.set_cons_zero, List.set_cons_succ])))
    (first | (refine Held.skip (i := 4) rfl (by kernel_rfl) (fun _ _ _ h => h) rfl ?_; (try simp only [Act.put, List.setIfInBounds_toArray, List.set_cons_zero, List.set_cons_succ])) | (refine Held.take (i := 4) (v := ?_) rfl (by kernel_rfl) (fun _ _ _ h => h) rfl ?_ ?_; rotate_left; (intro w hS; have q0 := (HBZ.out.after hS).cell 0; have q1 := (HBZ.out.after hS).cell 1; simp at q0 q1; go_simp; with_reducible rfl); (try simp only [Act.put, List.setIfInBounds_toArray, List.set_cons_zero, List.set_cons_succ])))
    (first | (refine Held.skip (i := 5) rfl (by kernel_rfl) (fun _ _ _ h => h) rfl ?_; (try simp only [Act.put, List.setIfInBounds_toArray, List.set_cons_zero, List.set_cons_succ])) | (refine Held.take (i := 5) (v := ?_) rfl (by kernel_rfl) (fun _ _ _ h => h) rfl ?_ ?_; rotate_left; (intro w hS; have q0 := (HBZ.out.after hS).cell 0; have q1 := (HBZ.out.after hS).cell 1; simp at q0 q1; go_simp; with_reducible rfl); (try simp only [Act.put, List.setIfInBounds_toArray, List.set_cons_zero, List.set_cons_succ])))
    (first | (refine Held.skip (i := 6) rfl (by kernel_rfl) (fun _ _ _ h => h) rfl ?_; (try simp only [Act.put, List.setIfInBounds_toArray, List.set_cons_zero, List.set_cons_succ])) | (refine Held.take (i := 6) (v := ?_) rfl (by kernel_rfl) (fun _ _ _ h => h) rfl ?_ ?_; rotate_left; (intro w hS; have q0 := (HBZ.out.after hS).cell 0; have q1 := (HBZ.out.after hS).cell 1; simp at q0 q1; go_simp; with_reducible rfl); (try simp only [Act.put, List.setIfInBounds_toArray, List.set_cons_zero, List.set_cons_succ])))
    (first | (refine Held.skip (i := 7) rfl (by kernel_rfl) (fun _ _ _ h => h) rfl ?_; (try simp only [Act.put, List.setIfInBounds_toArray, List.set_cons_zero, List.set_cons_succ])) | (refine Held.take (i := 7) (v := ?_) rfl (by kernel_rfl) (fun _ _ _ h => h) rfl ?_ ?_; rotate_left; (intro w hS; have q0 := (HBZ.out.after hS).cell 0; have q1 := (HBZ.out.after hS).cell 1; simp at q0 q1; go_simp; with_reducible rfl); (try simp only [Act.put, List.setIfInBounds_toArray, List.set_cons_zero, List.set_cons_succ])))
    (first | (refine Held.skip (i := 8) rfl (by kernel_rfl) (fun _ _ _ h => h) rfl ?_; (try simp only [Act.put, List.setIfInBounds_toArray, List.set_cons_zero, List.set_cons_succ])) | (refine Held.take (i := 8) (v := ?_) rfl (by kernel_rfl) (fun _ _ _ h => h) rfl ?_ ?_; rotate_left; (intro w hS; have q0 := (HBZ.out.after hS).cell 0; have q1 := (HBZ.out.after hS).cell 1; simp at q0 q1; go_simp; with_reducible rfl); (try simp only [Act.put, List.setIfInBounds_toArray, List.set_cons_zero, List.set_cons_succ])))
    (first | (refine Held.skip (i := 9) rfl (by kernel_rfl) (fun _ _ _ h => h) rfl ?_; (try simp only [Act.put, List.setIfInBounds_toArray, List.set_cons_zero, List.set_cons_succ])) | (refine Held.take (i := 9) (v := ?_) rfl (by kernel_rfl) (fun _ _ _ h => h) rfl ?_ ?_; rotate_left; (intro w hS; have q0 := (HBZ.out.after hS).cell 0; have q1 := (HBZ.out.after hS).cell 1; simp at q0 q1; go_simp; with_reducible rfl); (try simp only [Act.put, List.setIfInBounds_toArray, List.set_cons_zero, List.set_cons_succ])))
    (first | (refine Held.skip (i := 10) rfl (by kernel_rfl) (fun _ _ _ h => h) rfl ?_; (try simp only [Act.put, List.setIfInBounds_toArray, List.set_cons_zero, List.set_cons_succ])) | (refine Held.take (i := 10) (v := ?_) rfl (by kernel_rfl) (fun _ _ _ h => h) rfl ?_ ?_; rotate_left; (intro w hS; have q0 := (HBZ.out.after hS).cell 0; have q1 := (HBZ.out.after hS).cell 1; simp at q0 q1; go_simp; with_reducible rfl); (try simp only [Act.put, List.setIfInBounds_toArray, List.set_cons_zero, List.set_cons_succ])))
    (first | (refine Held.skip (i := 11) rfl (by kernel_rfl) (fun _ _ _ h => h) rfl ?_; (try simp only [Act.put, List.setIfInBounds_toArray, List.set_cons_zero, List.set_cons_succ])) | (refine Held.take (i := 11) (v := ?_) rfl (by kernel_rfl) (fun _ _ _ h => h) rfl ?_ ?_; rotate_left; (intro w hS; have q0 := (HBZ.out.after hS).cell 0; have q1 := (HBZ.out.after hS).cell 1; simp at q0 q1; go_simp; with_reducible rfl); (try simp only [Act.put, List.setIfInBounds_toArray, List.set_cons_zero, List.set_cons_succ])))
    (first | (refine Held.skip (i := 12) rfl (by kernel_rfl) (fun _ _ _ h => h) rfl ?_; (try simp only [Act.put, List.setIfInBounds_toArray, List.set_cons_zero, List.set_cons_succ])) | (refine Held.take (i := 12) (v := ?_) rfl (by kernel_rfl) (fun _ _ _ h => h) rfl ?_ ?_; rotate_left; (intro w hS; have q0 := (HBZ.out.after hS).cell 0; have q1 := (HBZ.out.after hS).cell 1; simp at q0 q1; go_simp; with_reducible rfl); (try simp only [Act.put, List.setIfInBounds_toArray, List.set_cons_zero, List.set_cons_succ])))
    (first | (refine Held.skip (i := 13) rfl (by kernel_rfl) (fun _ _ _ h => h) rfl ?_; (try simp only [Act.put, List.setIfInBounds_toArray, List.set_cons_zero, List.set_cons_succ])) | (refine Held.take (i := 13) (v := ?_) rfl (by kernel_rfl) (fun _ _ _ h => h) rfl ?_ ?_; rotate_left; (intro w hS; have q0 := (HBZ.out.after hS).cell 0; have q1 := (HBZ.out.after hS).cell 1; simp at q0 q1; go_simp; with_reducible rfl); (try simp only [Act.put, List.setIfInBounds_toArray, List.set_cons_zero, List.set_cons_succ])))
    (first | (refine Held.skip (i := 14) rfl (by kernel_rfl) (fun _ _ _ h => h) rfl ?_; (try simp only [Act.put, List.setIfInBounds_toArray, List.set_cons_zero, List.set_cons_succ])) | (refine Held.take (i := 14) (v := ?_) rfl (by kernel_rfl) (fun _ _ _ h => h) rfl ?_ ?_; rotate_left; (intro w hS; have q0 := (HBZ.out.after hS).cell 0; have q1 := (HBZ.out.after hS).cell 1; simp at q0 q1; go_simp; with_reducible rfl); (try simp only [Act.put, List.setIfInBounds_toArray, List.set_cons_zero, List.set_cons_succ])))
    (first | (refine Held.skip (i := 15) rfl (by kernel_rfl) (fun _ _ _ h => h) rfl ?_; (try simp only [Act.put, List.setIfInBounds_toArray, List.set_cons_zero, List.set_cons_succ])) | (refine Held.take (i := 15) (v := ?_) rfl (by kernel_rfl) (fun _ _ _ h => h) rfl ?_ ?_; rotate_left; (intro w hS; have q0 := (HBZ.out.after hS).cell 0; have q1 := (HBZ.out.after hS).cell 1; simp at q0 q1; go_simp; with_reducible rfl); (try simp only [Act.put, List.setIfInBounds_toArray, List.set_cons_zero, List.set_cons_succ])))
    refine Held.append (i := 16) rfl (by kernel_rfl) rfl (.tmp 31) (.tmp 46) rfl wz.heap.size (.slice none 0 0) [] rfl _ k _ seg rfl HK.out.symm (fun w' hS => ⟨Own.nil _ _, HSEG.out w' hS, hS.size⟩) (by have := HK.out; simp; omega) k (by have := HK.out; simpa using this) seg (by simp) ?_
    intro w3 hS3 A' c' w4 hown hg hnn
    have hb4 := bel_grown (Below.refl w3.heap.size w3) (Nat.le_refl _) (Own.nil w3 w3.heap.size) (Nat.le_refl _) hg
    refine ⟨Ext w4, Ext.refl _, fun w h => Ext.on (Ext.on hS3 hb4) h, ?_⟩
    have HO := Lib.hid hown.rd
    have HF := Lib.hid (hown.far (q := q) (Nat.lt_of_lt_of_le hlt HWZ.out.size))
    have HE := Lib.hid (Ext.on hS3 hb4)
    clear hown hg hnn hb4 hS3
    try simp only [Act.put, List.setIfInBounds_toArray, List.set_cons_zero, List.set_cons_succ]
    (first | (refine Held.skip (i := 17) rfl (by kernel_rfl) (fun _ _ _ h => h) rfl ?_; (try simp only [Act.put, List.setIfInBounds_toArray, List.set_cons_zero, List.set_cons_succ])) | (refine Held.take (i := 17) (v := ?_) rfl (by kernel_rfl) (fun _ _ _ h => h) rfl ?_ ?_; rotate_left; (intro w hS; skip; go_simp; with_reducible rfl); (try simp only [Act.put, List.setIfInBounds_toArray, List.set_cons_zero, List.set_cons_succ])))
    refine Held.done (by kernel_rfl) ?_
    intro w5 hz
    have HO5 := Lib.hid (HO.out.after hz)
    have hb5 := HBZ.out.after (HE.out.on hz)
    have HB5 := Lib.hid hb5
    have HC5 := Lib.hid (Chg.below hlt (bel_on HWZ.out (HE.out.on hz)))
    have q0 := hb5.cell 0
    have q1 := hb5.cell 1
    have lt5 := hb5.lt
    have fr5 := hb5.free
    simp at q0 q1
    clear hz HE HO hb5
    go_wp2_with fail
    go_ret
    exact ⟨A', c', rfl, HO5.out.setCell (q := ⟨q, 1, none⟩) HF.out _, HB5.out.put 1 _, HC5.out.trans (Chg.set _ _ _ _)⟩

/-- It returns no bytes; the reader is gone. -/
def RGone (q : Nat) (w : World) (v : Value) (e : Ending) (w' : World) : Prop := e = .returned v ∧ (∃ A n c a, RB w' q A n c a true) ∧ Chg q w w'
set_option maxRecDepth 100000 in
set_option maxHeartbeats 4000000 in
theorem refTake_no (q : Nat) (A : Option Addr) (n c at_ k : Nat) (w : World) (hb : RB w q A n c at_ false) (ha : at_ ≤ n) (hk : n < at_ + k) (hn3 : n ≤ 100000) :
    Calls Try.prog 32 #[.pointer (some ⟨q, 0, none⟩), .int .i64 k] w (RGone q w (.slice none 0 0)) := by
  have KD := Lib.hid (fun w => works_any w)
  have e1 : IntKind.i64.wrap ((n : Int) - (at_ : Int)) = (n : Int) - (at_ : Int) := IntWalk.i64_in _ (by omega)
  have t1 : (n : Int) - (at_ : Int) < (k : Int) := by omega
  have t2 : ¬ ((k : Int) < 0) := by omega
  have HB := Lib.hid hb
  have hlt := hb.lt
  clear hb ha hk
  go_enter Try.func32, Try.ntmps32
  go_wp2_with fail
  refine wp_region_seq (S := fun w' => RB w' q A n c at_ false ∧ Below w.heap.size w w') (by kernel_rfl) (by kernel_rfl) ⟨HB.out.drew, (Below.refl _ _).drew⟩ ?_
  have HST := Lib.hid (show ∀ w1' w2', (RB w1' q A n c at_ false ∧ Below w.heap.size w w1') → Below w1'.heap.size w1' w2' → (RB w2' q A n c at_ false ∧ Below w.heap.size w w2') from fun _ _ h hb => ⟨h.1.after hb, bel_on h.2 hb⟩)
  repeat (first
    | (refine SeqS.skip ?_ ?_; rfl; (try simp only [Act.put, List.setIfInBounds_toArray, List.set_cons_zero, List.set_cons_succ]))
    | (refine SeqS.take (v := ?_) ?_ ?_ ?_; rotate_left; rfl; (intro w hS; have q0 := hS.1.cell 0; have q1 := hS.1.cell 1; have q2 := hS.1.cell 2; simp at q0 q1 q2; go_simp; with_reducible rfl); (try simp only [Act.put, List.setIfInBounds_toArray, List.set_cons_zero, List.set_cons_succ]))
    | (refine SeqS.call (v := ?_) (f := ?_) (args := ?_) ?_ ?_ ?_ ?_; rotate_left 3; rfl; (intro w hS; have q0 := hS.1.cell 0; have q1 := hS.1.cell 1; have q2 := hS.1.cell 2; simp at q0 q1 q2; go_simp; (first | with_reducible rfl | (refine ⟨?_, ?_⟩ <;> with_reducible rfl))); (intro w hS; first | ((with_reducible refine (KD.out _).mono ?_); rintro e w' ⟨rfl, hb⟩; refine ⟨?_, HST.out _ _ hS hb⟩; with_reducible rfl)); (try simp only [Act.put, List.setIfInBounds_toArray, List.set_cons_zero, List.set_cons_succ])))
  refine SeqS.done ?_
  rintro wz ⟨hbz, hwz⟩
  have q2 := hbz.cell 2
  have ltz := hbz.lt
  have frz := hbz.free
  simp at q2
  have HBZ := Lib.hid hbz
  have HC := Lib.hid (Chg.below hlt hwz)
  clear hbz hwz HST
  go_wp2_with fail
  go_ret
  exact ⟨rfl, ⟨_, _, _, _, HBZ.out.put 2 _⟩, HC.out.trans (Chg.set _ _ _ _)⟩

set_option maxRecDepth 100000 in
set_option maxHeartbeats 4000000 in
theorem refTake_gone (q : Nat) (A : Option Addr) (n c at_ : Nat) (k : Int) (w : World) (hb : RB w q A n c at_ true) :
    Calls Try.prog 32 #[.pointer (some ⟨q, 0, none⟩), .int .i64 k] w (RGone q w (.slice none 0 0)) := by
  have KD := Lib.hid (fun w => works_any w)
  have HB := Lib.hid hb
  have hlt := hb.lt
  clear hb
  go_enter Try.func32, Try.ntmps32
  go_wp2_with fail
  refine wp_region_seq (S := fun w' => RB w' q A n c at_ true ∧ Below w.heap.size w w') (by kernel_rfl) (by kernel_rfl) ⟨HB.out.drew, (Below.refl _ _).drew⟩ ?_
  have HST := Lib.hid (show ∀ w1' w2', (RB w1' q A n c at_ true ∧ Below w.heap.size w w1') → Below w1'.heap.size w1' w2' → (RB w2' q A n c at_ true ∧ Below w.heap.size w w2') from fun _ _ h hb => ⟨h.1.after hb, bel_on h.2 hb⟩)
  repeat (first
    | (refine SeqS.skip ?_ ?_; rfl; (try simp only [Act.put, List.setIfInBounds_toArray, List.set_cons_zero, List.set_cons_succ]))
    | (refine SeqS.take (v := ?_) ?_ ?_ ?_; rotate_left; rfl; (intro w hS; have q0 := hS.1.cell 0; have q1 := hS.1.cell 1; have q2 := hS.1.cell 2; simp at q0 q1 q2; go_simp; with_reducible rfl); (try simp only [Act.put, List.setIfInBounds_toArray, List.set_cons_zero, List.set_cons_succ]))
    | (refine SeqS.call (v := ?_) (f := ?_) (args := ?_) ?_ ?_ ?_ ?_; rotate_left 3; rfl; (intro w hS; have q0 := hS.1.cell 0; have q1 := hS.1.cell 1; have q2 := hS.1.cell 2; simp at q0 q1 q2; go_simp; (first | with_reducible rfl | (refine ⟨?_, ?_⟩ <;> with_reducible rfl))); (intro w hS; first | ((with_reducible refine (KD.out _).mono ?_); rintro e w' ⟨rfl, hb⟩; refine ⟨?_, HST.out _ _ hS hb⟩; with_reducible rfl)); (try simp only [Act.put, List.setIfInBounds_toArray, List.set_cons_zero, List.set_cons_succ])))
  refine SeqS.done ?_
  rintro wz ⟨hbz, hwz⟩
  have q2 := hbz.cell 2
  have ltz := hbz.lt
  have frz := hbz.free
  simp at q2
  have HBZ := Lib.hid hbz
  have HC := Lib.hid (Chg.below hlt hwz)
  clear hbz hwz HST
  go_wp2_with fail
  go_ret
  exact ⟨rfl, ⟨_, _, _, _, HBZ.out.put 2 _⟩, HC.out.trans (Chg.set _ _ _ _)⟩

set_option maxHeartbeats 4000000 in
theorem refLeft_live (q : Nat) (A : Option Addr) (n c at_ k : Nat) (w : World) (hb : RB w q A n c at_ false) (hk : at_ + k = n) (hn3 : n ≤ 100000) : Calls Try.prog 23 #[.pointer (some ⟨q, 0, none⟩)] w (BRet (.int .i64 (k : Nat)) w) := by
  have KD := Lib.hid (fun w => works_any w)
  have e1 : IntKind.i64.wrap ((n : Int) - (at_ : Int)) = (k : Int) := by rw [IntWalk.i64_in _ (by omega)]; omega
  have HB := Lib.hid hb
  have q2 := hb.cell 2
  simp at q2
  clear hb hk
  go_enter Try.func23, Try.ntmps23
  go_wp2_with fail
  refine wp_region_seq (S := fun w' => RB w' q A n c at_ false ∧ Below w.heap.size w w') (by kernel_rfl) (by kernel_rfl) ⟨HB.out.drew, (Below.refl _ _).drew⟩ ?_
  have HST := Lib.hid (show ∀ w1' w2', (RB w1' q A n c at_ false ∧ Below w.heap.size w w1') → Below w1'.heap.size w1' w2' → (RB w2' q A n c at_ false ∧ Below w.heap.size w w2') from fun _ _ h hb => ⟨h.1.after hb, bel_on h.2 hb⟩)
  repeat (first
    | (refine SeqS.skip ?_ ?_; rfl; (try simp only [Act.put, List.setIfInBounds_toArray, List.set_cons_zero, List.set_cons_succ]))
    | (refine SeqS.take (v := ?_) ?_ ?_ ?_; rotate_left; rfl; (intro w hS; have q0 := hS.1.cell 0; have q1 := hS.1.cell 1; simp at q0 q1; go_simp; with_reducible rfl); (try simp only [Act.put, List.setIfInBounds_toArray, List.set_cons_zero, List.set_cons_succ]))
    | (refine SeqS.call (v := ?_) (f := ?_) (args := ?_) ?_ ?_ ?_ ?_; rotate_left 3; rfl; (intro w hS; have q0 := hS.1.cell 0; have q1 := hS.1.cell 1; simp at q0 q1; go_simp; (first | with_reducible rfl | (refine ⟨?_, ?_⟩ <;> with_reducible rfl))); (intro w hS; first | ((with_reducible refine (KD.out _).mono ?_); rintro e w' ⟨rfl, hb⟩; refine ⟨?_, HST.out _ _ hS hb⟩; with_reducible rfl)); (try simp only [Act.put, List.setIfInBounds_toArray, List.set_cons_zero, List.set_cons_succ])))
  refine SeqS.done ?_
  rintro wz ⟨_, hwz⟩
  go_wp2_with fail
  go_ret
  exact ⟨rfl, hwz⟩
theorem refLeft_gone (q : Nat) (A : Option Addr) (n c at_ : Nat) (w : World) (hb : RB w q A n c at_ true) : Calls Try.prog 23 #[.pointer (some ⟨q, 0, none⟩)] w (BRet (.int .i64 0) w) := by
  have q2 := hb.cell 2
  simp at q2
  clear hb
  go_enter Try.func23, Try.ntmps23
  go_wp2_with fail
  go_ret
  exact ⟨rfl, Below.refl _ _⟩

/-- The bytes' value, from the last to the first. -/
theorem valB_drop (l : List UInt8) (j : Nat) (hj : j < l.length) : valB (l.drop j) = l[j].toNat + 256 * valB (l.drop (j + 1)) := by
  rw [List.drop_eq_getElem_cons hj]
  rfl
set_option maxHeartbeats 4000000 in
theorem refValue_any (A : Option Addr) (n c : Nat) (l : List UInt8) (w : World) (hn : l.length = n) (hr : Rd w A l) (h8 : n ≤ 8) : Calls Try.prog 36 #[.slice A n c] w (BRet (.int .u64 (valB l : Nat)) w) := by
  have e1 : IntKind.i64.wrap ((n : Int) - 1) = (n : Int) - 1 := IntWalk.i64_in _ (by omega)
  have HR := Lib.hid hr
  have HN := Lib.hid hn
  clear hr hn
  go_enter Try.func36, Try.ntmps36
  go_wp2_with fail
  go_loopw [3, 4] (fun v i wr => ∃ j : Nat, j ≤ n ∧ i = .int .i64 ((j : Int) - 1) ∧ v = .int .u64 (valB (l.drop j) : Nat) ∧ wr = w) (fun _ i _ => (intOf i + 1).toNat)
  case atStart => exact ⟨n, Nat.le_refl _, rfl, by rw [← HN.out, List.drop_length]; rfl, rfl⟩
  case round =>
    obtain ⟨j, hj, rfl, rfl, rfl⟩ := hrel
    by_cases h0 : 0 < j
    · obtain ⟨i, rfl⟩ : ∃ i, j = i + 1 := ⟨j - 1, by omega⟩
      have hil : i < l.length := by rw [HN.out]; omega
      obtain ⟨ad, hA, hlt, hcell⟩ := HR.out (by omega)
      subst hA
      have hci : wr.cell? (ad.add i) = some (.int .u8 ((l[i]).toNat : Nat)) := by
        rw [hcell i hil]
        try simp [hil]
      have hv := valB_drop l i hil
      have hlt2 := valB_lt (l.drop (i + 1))
      have hb8 := (l[i]).toNat_lt
      have hpw : 2 ^ (8 * (l.drop (i + 1)).length) ≤ 2 ^ 56 := Nat.pow_le_pow_right (by decide) (by rw [List.length_drop, HN.out]; omega)
      have p56 : (2 : Nat) ^ 56 = 72057594037927936 := by decide
      have hvd : valB (l.drop (i + 1)) < 72057594037927936 := by omega
      generalize valB (l.drop (i + 1)) = V at *
      generalize (l[i]).toNat = b at *
      generalize hU : valB (l.drop i) = U at *
      have HU := Lib.hid hU
      clear hU
      have a4 : IntKind.u64.wrap (b : Int) = (b : Int) := IntWalk.u64_in _ (by omega)
      have a1 : IntKind.u64.wrap (256 * (V : Int)) = ((256 * V : Nat) : Int) := by rw [IntWalk.u64_in _ (by omega)]; omega
      generalize hM : 256 * V = M at *
      have a2 : IntKind.u64.wrap ((M : Int) + (b : Int)) = (U : Int) := by rw [IntWalk.u64_in _ (by omega)]; omega
      have hii : ((i + 1 : Nat) : Int) - 1 = (i : Int) := by omega
      rw [hii]
      have hi0 : (0 : Int) ≤ i := by omega
      have hin : (i : Int) < n := by omega
      have hin2 : i < n := by omega
      have a3 : IntKind.i64.wrap ((i : Int) - 1) = (i : Int) - 1 := IntWalk.i64_in _ (by omega)
      clear hv hlt2 hb8 hpw hlt hcell hM hvd p56
      go_wp2_with fail
      exact ⟨⟨i, by omega, rfl, by rw [HU.out], trivial⟩, by simp only [intOf]; omega⟩
    · obtain rfl : j = 0 := by omega
      have ed : l.drop 0 = l := rfl
      rw [ed]
      go_wp2_with fail
      go_ret
      exact ⟨rfl, Below.refl _ _⟩
end Go.Proofs.Ytgmbdhpanhkfhaa
