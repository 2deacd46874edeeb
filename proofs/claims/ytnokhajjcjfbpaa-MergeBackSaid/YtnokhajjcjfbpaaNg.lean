/- need.Need. -/
import Derived.Test.YtnokhajjcjfbpaaNf
import Derived.Test.YtnokhajjcjfbpaaPosN
namespace Go.Proofs.Ytnokhajjcjfbpaa
open Go.RowKit Go.Shelf Go.Maps

/-- Needed: a sibling of one on a way, itself on none. -/
def Needed (n : Nat) (ts : List Nat) (s : Nat) : Prop := ∃ p, OnWay n ts p ∧ topK n p ≠ 0 ∧ s = sibOf p ∧ ¬ OnWay n ts s
def IsNeed (n : Nat) (ts : List Nat) (l : List Nat) : Prop := l.Pairwise (fun a b => a < b) ∧ ∀ x, x ∈ l ↔ Needed n ts x
/-- Below its root: it has a sibling, in the forest. -/
theorem sib_in {n p : Nat} (h : InF n p) (h0 : topK n p ≠ 0) : p + 2 < 2 ^ (rowsOf n + 1) ∧ InF n (sibOf p) := by
  have hl := tree_le h
  unfold treeOf at hl
  have h2 := below_last h.2.1 (by omega)
  obtain ⟨s1, s2, _, _⟩ := sib_spec h2
  refine ⟨h2, h.1, by omega, ?_⟩
  -- both children of the parent, which is in the forest
  obtain ⟨pin, _, _⟩ := way_above h (i := 1) (by omega)
  have pr : anc p (rowsOf n) 1 = parOf p (rowsOf n) := rfl
  rw [pr] at pin
  obtain ⟨q1, q2, q3⟩ := par_spec h2
  have hc := child_in pin (by omega)
  have ho : offOf (sibOf p) (rowsOf n) / 2 = offOf p (rowsOf n) / 2 := by
    have e1 := sib_par h2
    have e2 := (par_spec s1).2.2
    rw [e1, q3] at e2
    exact e2.symm
  have h3 := pin.2.2
  rw [q2, q3] at h3
  rw [s2]
  have e1 : ∀ a b : Nat, (a + 1) * (2 * b) = (2 * a + 1 + 1) * b := fun a b => by rw [← Nat.mul_assoc]; congr 1; omega
  rw [pw_succ, e1] at h3
  exact Nat.le_trans (Nat.mul_le_mul_right _ (by omega)) h3

theorem ranges_same {H : Type} {k : TypeId} {R : Value → Option (DataW H × List MemPlace)} {W W' : World} {b r q : Nat} {D : DataW H} {left : Lit → Bool} {cnt : Nat} (h : W.ranges Try.prog k R b r q D left cnt) (hb : Below W.heap.size W W') : W'.ranges Try.prog k R b r q D left cnt := by
  have h1 := h.owns.lt
  have h2 := h.lt
  obtain ⟨es, clock, since, seen, c0, hb', F, hs, hD, hr, rest⟩ := h
  exact ⟨es, clock, since, seen, c0, (hb.block b h1).trans hb', F, hs, hD, (hb.block r h2).trans hr, rest⟩
theorem ranges_drew {H : Type} {k : TypeId} {R : Value → Option (DataW H × List MemPlace)} {W : World} {b r q : Nat} {D : DataW H} {left : Lit → Bool} {cnt : Nat} (h : W.ranges Try.prog k R b r q D left cnt) (d : Nat) : (W.drewN d).ranges Try.prog k R b r q D left cnt := h
theorem keys_u {D : DataW Unit} {W : World} {b q : Nat} {x : Int} (hown : W.ownsMap Try.prog 22 (plainElem (H := Unit) Try.prog 3) b q D) (h1 : has D (.int .u64 x) = true) : ∃ y : Nat, x = y ∧ (y : Int) ≤ 18446744073709551615 := by
  obtain ⟨es', hD', hko⟩ := hown.keysOf
  subst hD'
  rw [has_eq, List.any_eq_true] at h1
  obtain ⟨p, hp, hs⟩ := h1
  obtain ⟨v, hv⟩ := hko p hp
  obtain ⟨y, _, hy, hwf⟩ := Maps.keyOf_int_inv Try.underlying22 hv
  rw [hy] at hs
  have e : y = x := by simpa [Lit.sameKey] using hs
  subst e
  have := wf_u64 hwf
  exact ⟨y.toNat, by omega, by omega⟩
/-- What is counted behind these keys: the siblings wanted for them, each as often as ever. -/
def NR (n : Nat) (ts : List Nat) (ss : List Int) (f : Nat → Nat) : Prop := (∀ s, 0 < f s ↔ ∃ p : Nat, (p : Int) ∈ ss ∧ topK n p ≠ 0 ∧ s = sibOf p ∧ ¬ OnWay n ts s) ∧ ∀ s, f s ≤ ss.length
theorem NR.start (n : Nat) (ts : List Nat) : NR n ts [] (fun _ => 0) := ⟨fun s => by simp, fun s => by simp⟩
theorem NR.skip {n : Nat} {ts : List Nat} {ss : List Int} {f : Nat → Nat} (h : NR n ts ss f) {x : Nat} (hx : topK n x = 0 ∨ OnWay n ts (sibOf x)) : NR n ts (ss ++ [(x : Int)]) f := by
  refine ⟨fun s => ?_, fun s => ?_⟩
  · rw [h.1 s]
    constructor
    · rintro ⟨p, h1, h2⟩
      exact ⟨p, List.mem_append.2 (.inl h1), h2⟩
    · rintro ⟨p, h1, h2, h3, h4⟩
      rcases List.mem_append.1 h1 with h5 | h5
      · exact ⟨p, h5, h2, h3, h4⟩
      · simp at h5
        have : p = x := by omega
        subst this
        rcases hx with hx | hx
        · exact absurd hx h2
        · exact absurd (h3 ▸ hx) h4
  · have := h.2 s
    simp
    omega
theorem NR.count {n : Nat} {ts : List Nat} {ss : List Int} {f : Nat → Nat} (h : NR n ts ss f) {x : Nat} (h0 : topK n x ≠ 0) (hs : ¬ OnWay n ts (sibOf x)) : NR n ts (ss ++ [(x : Int)]) (upd f (sibOf x) (f (sibOf x) + 1)) := by
  refine ⟨fun s => ?_, fun s => ?_⟩
  · unfold upd
    by_cases e : s = sibOf x
    · subst e
      rw [if_pos rfl]
      exact ⟨fun _ => ⟨x, by simp, h0, rfl, hs⟩, fun _ => by omega⟩
    · rw [if_neg e, h.1 s]
      constructor
      · rintro ⟨p, h1, h2⟩
        exact ⟨p, List.mem_append.2 (.inl h1), h2⟩
      · rintro ⟨p, h1, h2, h3, h4⟩
        rcases List.mem_append.1 h1 with h5 | h5
        · exact ⟨p, h5, h2, h3, h4⟩
        · simp at h5
          have : p = x := by omega
          subst this
          exact absurd h3 e
  · have h1 := h.2 s
    have h2 := h.2 (sibOf x)
    unfold upd
    simp
    split <;> omega

set_option maxHeartbeats 4000000 in
set_option maxRecDepth 100000 in
theorem need_yes (n : Nat) (ts : List Nat) (A : Option Addr) (c : Nat) (w : World) (hlen : ts.length ≤ 1000) (hs : SliceG w A ts) (hv : Valid n ts) :
    Calls Try.prog 14 #[.int .u64 n, .slice A ts.length c] w fun e w' => ∃ l, IsNeed n ts l ∧ ListOK l w e w' := by
  have M := Lib.hid (made_yes n ts A c w hlen hs hv)
  have hmm := @run_makeMap Try.prog
  have hn := hv.1
  clear hs
  refine (callsIn_wide (n := 7)).1 ?_
  refine callsIn_of_wp Try.func14 rfl trivial ?_ rfl
  simp only [Try.ntmps14, List.size_toArray, List.length_cons, List.length_nil, Nat.reduceAdd, Nat.reduceSub, Array.replicate_succ, Array.replicate_zero, List.push_toArray, List.append_toArray, List.nil_append, List.cons_append]
  have hF1 : Fence.wide.fn 24 := trivial
  have hF2 : Fence.wide.fn 25 := trivial
  have hF3 : Fence.wide.fn 26 := trivial
  have hF4 : Fence.wide.fn 27 := trivial
  gi_wp2_with (first
    | (gi_at_call 24; refine (callsIn_wide.2 M.out).mono ?_; rintro e w1 ⟨P, m1, m2, q1, q2, wy, rfl, hP, _, hN, _, hq2, hW, _, _, _, hb⟩; have HP := Lib.hid hP; have HN := Lib.hid hN; have HW := Lib.hid hW; have HB := Lib.hid hb; have cp := IsBlk.cell (IsBlk.alloc hP (.map #[] 0)) 3; simp at cp; obtain ⟨D0, hown, hD⟩ := hN.alloc (.map #[] 0); have HD := Lib.hid hD; clear hP hN hW hb hD)
    | (gi_at_range; refine wpListIn_range_own _ rfl _ 70 rfl 22 3 keyedU Try.underlying70 _ m2 q2 _ rfl hown ?_; intro w0 hrg0 hg0 hs0)
    | gi_in)
  go_frame
  obtain ⟨it, hit⟩ : ∃ it, (w1.alloc (Obj.map #[] 0)).heap.size = it := ⟨_, rfl⟩
  rw [hit] at hrg0 hs0 ⊢
  have hitv : it = w1.heap.size + 1 := by rw [← hit]; simp
  have hm2 := HN.out.lt
  have hPl : P < w1.heap.size := IsBlk.lt HP.out
  have hsz2 := hown.size_le
  have hbw := HB.out.size
  clear cp hit
  subst hitv
  gi_loopw [9, 10, 11] (fun _ _ _ wr => ∃ (left : Lit → Bool) (cnt : Nat) (ss : List Int) (f : Nat → Nat) (q : Nat), wr.ranges Try.prog 22 (plainElem (H := Unit) Try.prog 3) m2 (w1.heap.size + 1) q2 D0 left cnt ∧ ss.length + cnt ≤ Maps.size D0 ∧ CollectedU D0 left ss ∧ NMap wr w1.heap.size q f ∧ q ≤ ss.length ∧ NR n ts ss f ∧ PlanB wr P m1 m2 n (rowsOf n) ∧ NMap wr m2 q2 wy ∧ Below w1.heap.size w1 wr)
    (fun _ _ _ wr => wr.rangeLeft m2 (w1.heap.size + 1))
  case atStart =>
    refine ⟨_, _, [], fun _ => 0, 0, hrg0, by simp, CollectedU.start D0, (NMap.made w1).kept hg0 (by simp), by simp, NR.start n ts, (hg0.block P (by simp; omega) (by simp)).trans (IsBlk.alloc HP.out _), (HN.out.alloc _).kept hg0 (by simp), ((Below.refl _ w1).alloc (by simp) _).grown hg0 (by simp) (fun r e => by cases e)⟩
  case round =>
    obtain ⟨left, cnt, ss, f, q, hrg, hcs, hC, hF, hqs, hNR, hPw, hWw, hbel⟩ := hrel
    gi_wp2_with (first
      | (gi_at_next; refine wpListIn_next_ranges _ rfl _ rfl 22 keyedU (plainElem (H := Unit) Try.prog 3) (Value.int .u64) id (fun key kl hk => by obtain ⟨x, hx, _⟩ := Maps.keyOf_int_inv Try.underlying22 hk; exact ⟨x, hx⟩) (fun v _ _ => ⟨v, rfl⟩) m2 (w1.heap.size + 1) q2 _ _ _ rfl hrg ?_ ?_)
      | gi_in)
    · -- nothing is left
      intro hc0 hl0
      have hall := hC.all hl0
      have hN2 : ∀ s, 0 < f s ↔ Needed n ts s := fun s => by
        rw [hNR.1 s]
        constructor
        · rintro ⟨p, h1, h2, h3, h4⟩
          refine ⟨p, ?_, h2, h3, h4⟩
          obtain ⟨y, hy1, hy2⟩ := keys_u hown ((hall.2 _).1 h1)
          have : y = p := by omega
          subst this
          exact (HW.out y).1 ((HD.out y hy2).2.1 ((hall.2 _).1 h1))
        · rintro ⟨p, h1, h2, h3, h4⟩
          exact ⟨p, (hall.2 _).2 ((HD.out p (by have := inF_u64 (onway_u64 hv h1); omega)).2.2 ((HW.out p).2 h1)), h2, h3, h4⟩
      have R := Lib.hid (rising_any w1.heap.size q f wr hF (by omega))
      have HN2 := Lib.hid hN2
      have HBE := Lib.hid (HB.out.trans (hbel.mono hbw))
      clear hall hN2 hNR hPw hWw hbel hrg hC hF
      gi_wp2
      refine (callsIn_wide.2 R.out).mono ?_
      rintro e w2 ⟨l, hl, A2, c2, rfl, hown2, hb2⟩
      have HO := Lib.hid hown2; have HB2 := Lib.hid hb2
      clear hown2 hb2
      gi_wp2
      go_ret2
      refine ⟨l, ⟨hl.1, fun x => ?_⟩, A2, c2, ?_, ?_, HBE.out.trans (HB2.out.mono HBE.out.size)⟩
      · rw [hl.2, HN2.out]
        constructor
        · exact fun h => h.2
        · rintro h
          refine ⟨?_, h⟩
          obtain ⟨p, h1, h2, h3, h4⟩ := h
          have h5 := inF_u64 (sib_in (onway_u64 hv h1) h2).2
          rw [h3]
          omega
      · rw [ints_len]; rfl
      · have := HO.out
        rw [ints_len] at this
        exact own_low this HBE.out.size
    · intro x c' kl yd yp w2 cnt2 hkey hlk hv' hat hrg2 hlt hg2 hs2 hen
      obtain ⟨x', ex, rfl, hwf⟩ := Maps.keyOf_int_inv Try.underlying22 hkey
      obtain rfl : x = x' := enc_injU ex
      have hwu := wf_u64 hwf
      obtain ⟨p, rfl⟩ : ∃ p : Nat, x = p := ⟨x.toNat, by omega⟩
      have hon : OnWay n ts p := (HW.out p).1 ((HD.out p (by omega)).2.1 (has_true_of_atKey hat))
      have hin := onway_u64 hv hon
      have hP2 : PlanB w2 P m1 m2 n (rowsOf n) := (hg2.block P (IsBlk.lt hPw) (by simp; omega)).trans hPw
      have hW2 : NMap w2 m2 q2 wy := hWw.kept hg2 (by simp; omega)
      have hF2' : NMap w2 w1.heap.size q f := hF.kept hg2 (by simp)
      have hb2 : Below w1.heap.size w1 w2 := hbel.grown hg2 hbel.size (fun r e => by cases e; omega)
      have hC2 := hC.step hlk hat
      have hlen2 : (ss ++ [(p : Int)]).length + cnt2 ≤ Maps.size D0 := by simp; omega
      have hmeas : ∀ W' : World, W'.ranges Try.prog 22 (plainElem (H := Unit) Try.prog 3) m2 (w1.heap.size + 1) q2 D0 (fun z => left z && !z.sameKey (.int .u64 (p : Int))) cnt2 → W'.rangeLeft m2 (w1.heap.size + 1) < wr.rangeLeft m2 (w1.heap.size + 1) := fun W' h => by rw [h.left_eq, hrg.left_eq]; exact hlt
      have hir := isRoot_any n p P m1 m2 w2 hP2 hin
      clear hs2 hC hkey hv'
      by_cases h0 : topK n p = 0
      · rw [decide_eq_true h0] at hir
        have HI := Lib.hid hir
        have hNR2 := hNR.skip (x := p) (.inl h0)
        clear hir hNR
        gi_wp2_with (first
          | (gi_at_call 25; refine (callsIn_wide.2 HI.out).mono ?_; rintro e w3 ⟨rfl, hb3⟩)
          | gi_in)
        go_roundw
        case rel => exact ⟨_, cnt2, ss ++ [(p : Int)], f, q, ranges_same hrg2 hb3, hlen2, hC2, hF2'.after hb3 hF2'.lt, by simp; omega, hNR2, IsBlk.after hP2 hb3, hW2.after hb3 hW2.lt, hb2.trans (hb3.mono hb2.size)⟩
        case measure => exact hmeas _ (ranges_same hrg2 hb3)
      · rw [decide_eq_false h0] at hir
        obtain ⟨s1, s2⟩ := sib_in hin h0
        have hR := rows_le (n := n) (by omega)
        have hsu := inF_u64 s2
        have HS := Lib.hid fun w => sib_yes p (rowsOf n) w hR s1
        have HI := Lib.hid hir
        have hfs := hNR.2 (sibOf p)
        have hP2' := Lib.hid hP2; have HW2 := Lib.hid hW2; have HF2 := Lib.hid hF2'; have HR2 := Lib.hid hrg2; have HB2 := Lib.hid hb2
        by_cases ho : OnWay n ts (sibOf p)
        · have hNR2 := hNR.skip (x := p) (.inr ho)
          obtain ⟨m, hm1⟩ : ∃ m, wy (sibOf p) = m + 1 := ⟨wy (sibOf p) - 1, by have := (HW.out _).2 ho; omega⟩
          have hm0 : (0 : Int) ≤ m := by omega
          have HM := Lib.hid hm1
          clear hir hNR s1 s2 ho hm1 hP2 hW2 hF2' hrg2 hb2
          gi_wp2_with (first
            | (gi_at_call 25; refine (callsIn_wide.2 HI.out).mono ?_; rintro e w3 ⟨rfl, hb3⟩; have hP3 := IsBlk.after hP2'.out hb3; have c1 := IsBlk.cell hP3 1; have c3 := IsBlk.cell hP3 3; simp at c1 c3; have L3 := (HW2.out.after hb3 HW2.out.lt).look Try.underlying70 (x := sibOf p) (by omega); rw [HM.out] at L3; have HB3 := Lib.hid hb3; clear hb3 hP3)
            | (gi_at_call 26; refine (callsIn_wide.2 (HS.out _)).mono ?_; rintro e w' ⟨rfl, rfl⟩)
            | gi_in)
          have hb3 := HB3.out
          go_roundw
          case rel => exact ⟨_, cnt2, ss ++ [(p : Int)], f, q, ranges_same HR2.out hb3, hlen2, hC2, HF2.out.after hb3 HF2.out.lt, by simp; omega, hNR2, IsBlk.after hP2'.out hb3, HW2.out.after hb3 HW2.out.lt, HB2.out.trans (hb3.mono HB2.out.size)⟩
          case measure => exact hmeas _ (ranges_same HR2.out hb3)
        · have hNR2 := hNR.count h0 ho
          have hm1 : wy (sibOf p) = 0 := by
            rcases Nat.eq_zero_or_pos (wy (sibOf p)) with h | h
            · exact h
            · exact absurd ((HW.out _).1 h) ho
          have HM := Lib.hid hm1
          obtain ⟨fv, hfv⟩ : ∃ v, f (sibOf p) = v := ⟨_, rfl⟩
          rw [hfv] at hNR2 hfs
          have HFV := Lib.hid hfv
          have hsl : (ss ++ [(p : Int)]).length = ss.length + 1 := by simp
          have hfb : (fv : Int) ≤ 1000000 := by omega
          clear hir hNR s1 s2 ho hm1 hfv hP2 hW2 hF2' hrg2 hb2
          gi_wp2_with (first
            | (gi_at_call 25; refine (callsIn_wide.2 HI.out).mono ?_; rintro e w3 ⟨rfl, hb3⟩; have hP3 := IsBlk.after hP2'.out hb3; have c1 := IsBlk.cell hP3 1; have c3 := IsBlk.cell hP3 3; simp at c1 c3; have hF3 := HF2.out.after hb3 HF2.out.lt; have L3 := (HW2.out.after hb3 HW2.out.lt).look Try.underlying70 (x := sibOf p) (by omega); rw [HM.out] at L3; have L4 := hF3.look Try.underlying70 (x := sibOf p) (by omega); rw [HFV.out] at L4; have HB3 := Lib.hid hb3; have HF3 := Lib.hid hF3; clear hb3 hP3 hF3)
            | (gi_at_call 26; refine (callsIn_wide.2 (HS.out _)).mono ?_; rintro e w' ⟨rfl, rfl⟩)
            | (gi_at_mapUpdate; refine wpListIn_put_N rfl _ _ _ _ rfl Try.underlying70 w1.heap.size q f HF3.out rfl (by simp only [maxLen]; omega) (sibOf p) _ (fv + 1) rfl rfl (by omega) (by omega) (by omega) (by omega) ?_; intro w5 hN5 hg5)
            | gi_in)
          have hb3 := HB3.out
          have hm := HB2.out.size
          have hr5 := (ranges_same HR2.out hb3).kept hg5 (by simp; omega) (by simp)
          go_roundw
          case rel =>
            refine ⟨_, _, _, _, _, _, _, _, _, _, _, _, _, _, _, _, _, _, _, _, _, _, _, _, _, _, _, _, _, _, ?_, rfl⟩
            exact ⟨_, cnt2, ss ++ [(p : Int)], _, q + 1, hr5, hlen2, hC2, hN5, by simp; omega, hNR2, (hg5.block P (IsBlk.lt (IsBlk.after hP2'.out hb3)) (by simp; omega)).trans (IsBlk.after hP2'.out hb3), (HW2.out.after hb3 HW2.out.lt).kept hg5 (by simp; omega), (HB2.out.trans (hb3.mono HB2.out.size)).grown hg5 (by have := hb3.size; omega) (fun r e => by cases e; omega)⟩
          case measure => exact hmeas _ hr5

set_option maxHeartbeats 1000000 in
theorem need_no (n : Nat) (ts : List Nat) (A : Option Addr) (c : Nat) (w : World) (hnu : (n : Int) ≤ 18446744073709551615) (hlen : ts.length ≤ 1000) (hu : ∀ t ∈ ts, (t : Int) ≤ 18446744073709551615) (hs : SliceG w A ts) (hv : ¬ Valid n ts) :
    Calls Try.prog 14 #[.int .u64 n, .slice A ts.length c] w (ListErr w) := by
  have M := Lib.hid (made_no n ts A c w hnu hlen hu hs hv)
  clear hs hu hv
  go_enter Try.func14, Try.ntmps14
  go_wp2_with fail
  refine M.out.mono ?_
  rintro e w1 ⟨rfl, hb⟩
  go_wp2_with fail
  go_ret2
  exact ⟨rfl, hb⟩
end Go.Proofs.Ytnokhajjcjfbpaa
