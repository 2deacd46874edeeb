/- Nq, Ha, Hb, Hc in one (merge.py): a claim holds at most 60 files. -/
import Derived.Test.YtnokhajjcjfbpaaRn
import Derived.Test.YtnokhajjcjfbpaaIn
import Derived.Test.YtnokhajjcjfbpaaMn
import Derived.Deep.MidRow
import Derived.Maps.AppendAt
/- Needed ones: words for the laws of merge (out of c12's XNi, XLl). -/
namespace Go.Proofs.Ytnokhajjcjfbpaa
open Go.RowKit Go.Shelf

instance (n : Nat) (ts : List Nat) : Decidable (Valid n ts) := by unfold Valid; infer_instance
/-- The needed ones, with repetitions. -/
def needL (n : Nat) (ts : List Nat) : List Nat := (((ts.flatMap (wayOf n)).filter fun p => topK n p != 0 && !onB n ts (sibOf p)).map sibOf)
theorem onway_mem (n : Nat) (ts : List Nat) (p : Nat) : OnWay n ts p ↔ p ∈ ts.flatMap (wayOf n) := by
  unfold OnWay
  rw [List.mem_flatMap]
theorem needed_mem (n : Nat) (ts : List Nat) (s : Nat) : Needed n ts s ↔ s ∈ needL n ts := by
  unfold Needed needL
  rw [List.mem_map]
  constructor
  · rintro ⟨p, h1, h2, rfl, h3⟩
    refine ⟨p, List.mem_filter.2 ⟨(onway_mem n ts p).1 h1, ?_⟩, rfl⟩
    have h4 : onB n ts (sibOf p) = false := by
      cases h : onB n ts (sibOf p)
      · rfl
      · exact absurd ((onB_iff _ _ _).1 h) h3
    rw [h4]
    simp [h2]
  · rintro ⟨p, h1, rfl⟩
    obtain ⟨h1, h2⟩ := List.mem_filter.1 h1
    simp at h2
    refine ⟨p, (onway_mem n ts p).2 h1, h2.1, rfl, fun h => ?_⟩
    rw [(onB_iff _ _ _).2 h] at h2
    simp at h2
theorem isNeed_one {n : Nat} {ts a b : List Nat} (ha : IsNeed n ts a) (hb : IsNeed n ts b) : a = b := by
  refine List.Perm.eq_of_pairwise (le := fun a b => a < b) (fun x y _ _ h1 h2 => by omega) ha.1 hb.1 ?_
  refine (List.perm_ext_iff_of_nodup ?_ ?_).2 fun x => by rw [ha.2, hb.2]
  · exact ha.1.imp fun h => by omega
  · exact hb.1.imp fun h => by omega
theorem SliceAt.lit {W : World} {g : Nat} (zs : List Nat) (h : IsBlk W g 22 (zs.map fun x : Nat => Value.int .u64 x).toArray) : SliceAt W (some ⟨g, 0, none⟩) zs := fun k hk => ⟨g, rfl, h.lt, by rw [h.cell k]; simp⟩
/-- What a list that came back says: its slice, its numbers. -/
theorem ListOK.at {l : List Nat} {w w' : World} {e : Ending} (h : ListOK l w e w') : ∃ A c, e = .returned (.tuple #[.slice A l.length c, .int .i64 0]) ∧ SliceAt w' A l ∧ Below w.heap.size w w' := by
  obtain ⟨A, c, rfl, h1, h2⟩ := h
  exact ⟨A, c, rfl, SliceAt.of_own h1 rfl, h2⟩

theorem own_made (w : World) : OwnU (w.alloc (.cells #[] 22)) w.heap.size (.slice (some ⟨w.heap.size, 0, none⟩) 0 0) [] := ⟨rfl, .inr ⟨w.heap.size, 0, #[], rfl, Nat.le_refl _, World.alloc_heap_new _ _, Nat.le_refl _, Nat.zero_le _, rfl, rfl⟩⟩
theorem ru_gen {w : World} {A : Option Addr} {l : List Nat} (h : SliceG w A l) : Ru w A l := fun h0 => by
  obtain ⟨ad, e, h1, _⟩ := h 0 h0
  refine ⟨ad, e, h1, fun j x hx => ?_⟩
  obtain ⟨ad', e', _, h3⟩ := h j (List.getElem?_eq_some_iff.1 hx).1
  rw [e] at e'
  cases e'
  rw [h3, hx]
  rfl
theorem app_bel {w w2 : World} {o : Obj} {r : Option Nat} (hr : r = some w.heap.size) (hg : (w.alloc o).grownBy w2 r) : Below w.heap.size w w2 :=
  ((Below.refl w.heap.size w).alloc (Nat.le_refl _) o).grown hg (by simp) (fun r' e => by rw [hr] at e; cases e; exact Nat.le_refl _)
theorem RefOK.at {l : List Nat} {w w' : World} {e : Ending} (h : RefOK l w e w') : ∃ A c, e = .returned (.tuple #[.slice A l.length c, .int .i64 0]) ∧ SliceAt w' A l ∧ Below w.heap.size w w' := by
  obtain ⟨A, c, rfl, h1, h2⟩ := h
  exact ⟨A, c, rfl, h1.at', h2⟩
theorem nodup_len : ∀ (l m : List Nat), l.Nodup → (∀ x ∈ l, x ∈ m) → l.length ≤ m.length
  | [], _, _, _ => Nat.zero_le _
  | x :: l, m, h, hs => by
    rw [List.nodup_cons] at h
    have h1 := nodup_len l (m.erase x) h.2 (fun y hy => (List.mem_erase_of_ne (fun e => h.1 (by rw [← e]; exact hy))).2 (hs y (List.mem_cons_of_mem _ hy)))
    have h2 := List.length_erase_of_mem (hs x (List.mem_cons_self))
    have h3 := List.length_pos_of_mem (hs x (List.mem_cons_self))
    rw [List.length_cons]
    omega
theorem flat_short (n : Nat) : ∀ ts : List Nat, (ts.flatMap (wayOf n)).length ≤ 64 * ts.length
  | [] => by simp
  | t :: ts => by
    have h1 := flat_short n ts
    have h2 := way_short n t
    rw [List.flatMap_cons, List.length_append, List.length_cons]
    omega
theorem need_short {n : Nat} {ts l : List Nat} (h : IsNeed n ts l) : l.length ≤ 64 * ts.length := by
  have h1 := nodup_len l (needL n ts) (h.1.imp fun h => by omega) (fun x hx => (needed_mem n ts x).1 ((h.2 x).1 hx))
  have h2 : (needL n ts).length ≤ (ts.flatMap (wayOf n)).length := by
    unfold needL
    rw [List.length_map]
    exact List.length_filter_le _ _
  have h3 := flat_short n ts
  omega


theorem need_in {n s : Nat} {ts : List Nat} (hv : Valid n ts) (h : Needed n ts s) : InF n s := by
  obtain ⟨p, h1, h2, rfl, _⟩ := h
  exact (sib_in (onway_u64 hv h1) h2).2
end Go.Proofs.Ytnokhajjcjfbpaa
/- merge: lists. -/
namespace Go.Proofs.Ytnokhajjcjfbpaa
open Go.RowKit Go.Shelf

/-- The slice at A holds these whole numbers. -/
def IntG (W : World) (A : Option Addr) (zs : List Int) : Prop := ∀ k, k < zs.length → ∃ ad : Addr, A = some ad ∧ ad.block < W.heap.size ∧ W.cell? (ad.add k) = (zs[k]?).map (Value.int .i64)
theorem IntG.after {W W' : World} {A : Option Addr} {zs : List Int} (h : IntG W A zs) (hb : Below W.heap.size W W') : IntG W' A zs := fun k hk => by
  obtain ⟨ad, e, h1, h2⟩ := h k hk
  exact ⟨ad, e, by have := hb.size; omega, (hb.cell (p := ad.add k) (add_block ad k ▸ h1)).trans h2⟩
theorem IntG.of_own {W : World} {A : Option Addr} {zs : List Int} {B n c : Nat} (h : W.ownsRow B 3 1 (.slice A n c) n (zs.map (Value.int .i64))) (hn : n = zs.length) : IntG W A zs := fun k hk => by
  obtain ⟨g, e, _, h1, h2⟩ := own_at h (k := k) (by omega)
  refine ⟨_, e, h1, ?_⟩
  rw [add_zero, h2, List.getElem?_map]

set_option maxHeartbeats 1000000 in
theorem mhas_list (l : List Nat) (A : Option Addr) (c p : Nat) (w : World) (hlen : l.length ≤ 1000000) (hs : SliceG w A l) : Calls Try.prog 18 #[.slice A l.length c, .int .u64 p] w fun e w' => e = .returned (.bool (decide (p ∈ l))) ∧ w = w' := by
  go_enter Try.func18, Try.ntmps18
  go_wp2_with fail
  go_loopw [5] (fun v wr => ∃ k : Nat, k ≤ l.length ∧ v = .int .i64 k ∧ p ∉ l.take k ∧ wr = w) (fun v _ => l.length - (intOf v).toNat)
  case atStart => exact ⟨0, by omega, rfl, by simp, rfl⟩
  case round =>
    obtain ⟨k, hk, rfl, hno, rfl⟩ := hrel
    by_cases hlt : k < l.length
    · obtain ⟨g, rfl, hg, hc⟩ := hs k hlt
      have hx : l[k]? = some l[k] := List.getElem?_eq_getElem hlt
      rw [hx] at hc
      simp only [Option.map_some] at hc
      have k1 : (k : Int) < l.length := by omega
      have HX := Lib.hid hx
      have HS := Lib.hid hs
      clear hs hx
      generalize l[k] = z at *
      by_cases he : z = p
      · subst he
        have HM := Lib.hid (decide_eq_true (List.mem_of_getElem? HX.out))
        go_wp2_with fail
        go_ret
        exact ⟨by rw [HM.out]; rfl, rfl⟩
      · have hne : ((z : Int) == p) = false := by rw [beq_eq_false_iff_ne]; omega
        have NO := Lib.hid (show p ∉ l.take (k + 1) from by
          rw [List.take_add_one, HX.out]
          intro h
          rcases List.mem_append.1 h with h | h
          · exact hno h
          · simp at h
            exact he h.symm)
        clear hno he
        go_wp2_with fail
        exact ⟨⟨k + 1, by omega, by go_num, NO.out, trivial⟩, by simp [intOf]; omega⟩
    · obtain rfl : k = l.length := by omega
      rw [List.take_length] at hno
      have HM := Lib.hid (decide_eq_false hno)
      clear hno
      go_wp2_with fail
      go_ret
      exact ⟨by rw [HM.out]; rfl, rfl⟩

set_option maxHeartbeats 1000000 in
theorem index_any (l : List Nat) (A : Option Addr) (c p : Nat) (w : World) (hlen : l.length ≤ 1000000) (hs : SliceG w A l) : Calls Try.prog 28 #[.slice A l.length c, .int .u64 p] w fun e w' => (∃ v : Int, e = .returned (.int .i64 v) ∧ decide (0 ≤ v) = decide (p ∈ l)) ∧ w = w' := by
  go_enter Try.func28, Try.ntmps28
  go_wp2_with fail
  go_loopw [5, 8] (fun _ v wr => ∃ k : Nat, k ≤ l.length ∧ v = .int .i64 k ∧ p ∉ l.take k ∧ wr = w) (fun _ v _ => l.length - (intOf v).toNat)
  case atStart => exact ⟨0, by omega, rfl, by simp, rfl⟩
  case round =>
    obtain ⟨k, hk, rfl, hno, rfl⟩ := hrel
    by_cases hlt : k < l.length
    · obtain ⟨g, rfl, hg, hc⟩ := hs k hlt
      have hx : l[k]? = some l[k] := List.getElem?_eq_getElem hlt
      rw [hx] at hc
      simp only [Option.map_some] at hc
      have k1 : (k : Int) < l.length := by omega
      have HX := Lib.hid hx
      clear hs hx
      generalize l[k] = z at *
      by_cases he : z = p
      · subst he
        have HM := Lib.hid (decide_eq_true (List.mem_of_getElem? HX.out))
        go_wp2_with fail
        go_ret
        exact ⟨⟨_, rfl, by rw [HM.out]; exact decide_eq_true (by omega)⟩, rfl⟩
      · have hne : ((p : Int) == z) = false := by rw [beq_eq_false_iff_ne]; omega
        have NO := Lib.hid (show p ∉ l.take (k + 1) from by
          rw [List.take_add_one, HX.out]
          intro h
          rcases List.mem_append.1 h with h | h
          · exact hno h
          · simp at h
            exact he h.symm)
        clear hno he
        go_wp2_with fail
        exact ⟨⟨k + 1, by omega, by go_num, NO.out, trivial⟩, by simp [intOf]; omega⟩
    · obtain rfl : k = l.length := by omega
      rw [List.take_length] at hno
      have HM := Lib.hid (decide_eq_false hno)
      clear hno
      go_wp2_with fail
      go_ret
      exact ⟨⟨_, rfl, by rw [HM.out]; decide⟩, rfl⟩
theorem contains_any (l : List Nat) (A : Option Addr) (c p : Nat) (w : World) (hlen : l.length ≤ 1000000) (hs : SliceG w A l) : Calls Try.prog 16 #[.slice A l.length c, .int .u64 p] w fun e w' => e = .returned (.bool (decide (p ∈ l))) ∧ w = w' := by
  have IX := Lib.hid (index_any l A c p w hlen hs)
  go_enter Try.func16, Try.ntmps16
  go_wp2_with fail
  refine IX.out.mono ?_
  rintro e _ ⟨⟨v, rfl, hv⟩, rfl⟩
  have HV := Lib.hid hv
  clear hv
  go_wp2_with fail
  go_ret
  exact ⟨by rw [← HV.out]; rfl, rfl⟩

/-- slices.Clone: another slice of the same numbers. -/
theorem clone_any (l : List Nat) (A : Option Addr) (c : Nat) (w : World) (hlen : l.length ≤ 1000000) (hs : SliceG w A l) : Calls Try.prog 15 #[.slice A l.length c] w fun e w' => ∃ A' c', e = .returned (.slice A' l.length c') ∧ OwnU w' w.heap.size (.slice A' l.length c') l ∧ Below w.heap.size w w' := by
  cases A with
  | none =>
    have hl : l = [] := by
      rcases Nat.eq_zero_or_pos l.length with h | h
      · exact List.eq_nil_of_length_eq_zero h
      · obtain ⟨ad, e, _⟩ := hs 0 h
        cases e
    subst hl
    have hq : ∀ w, (binOp .eql 24 (.slice none 0 c) (.slice none 0 0)).run Try.prog w = .ok (.bool true) w := fun w => Lib.run_eql_slice_nil w 24 22 _ _ _ 0 0 Try.underlying24
    clear hs hlen
    show Calls Try.prog 15 #[.slice none 0 c] w _
    go_enter Try.func15, Try.ntmps15
    go_wp2_with fail
    go_ret
    exact ⟨none, 0, rfl, OwnU.nil _ _, Below.refl _ _⟩
  | some ad =>
    have HS := Lib.hid hs
    clear hs
    have hq : ∀ w, (binOp .eql 24 (.slice (some ad) l.length c) (.slice none 0 0)).run Try.prog w = .ok (.bool false) w := fun w => Lib.run_eql_slice_nil w 24 22 _ _ _ 0 0 Try.underlying24
    go_enter Try.func15, Try.ntmps15
    go_wp2_with (at_builtin; refine wpList_append_nums rfl _ _ rfl w.heap.size (.slice (some ⟨w.heap.size, 0, none⟩) 0 0) [] rfl (own_made w) _ _ _ l rfl rfl (by exact (ru_gen HS.out).after ((Below.refl w.heap.size w).alloc (Nat.le_refl _) _)) (by simp; omega) (by simp) l.length (by simp) l rfl ?_; intro A2 c2 w2 h2 hg2; have H2 := Lib.hid h2; have HB2 := Lib.hid (app_bel rfl hg2); clear h2 hg2)
    go_ret
    exact ⟨A2, c2, rfl, H2.out, HB2.out⟩

set_option maxHeartbeats 1000000 in
theorem ints_any (a b : List Int) (A B : Option Addr) (c d : Nat) (w : World) (ha : a.length ≤ 1000000) (_hb : b.length ≤ 1000000) (hs : IntG w A a) (ht : IntG w B b) : Calls Try.prog 22 #[.slice A a.length c, .slice B b.length d] w (QRet (.bool (decide (a = b))) w) := by
  by_cases hl : a.length = b.length
  · have hl' : (a.length : Int) = b.length := by omega
    go_enter Try.func22, Try.ntmps22
    go_wp2_with fail
    go_loopw [5] (fun v wr => ∃ k : Nat, k ≤ a.length ∧ v = .int .i64 k ∧ a.take k = b.take k ∧ ∃ q, wr = w.drewN q) (fun v _ => a.length - (intOf v).toNat)
    case atStart => exact ⟨0, by omega, rfl, by simp, 0, rfl⟩
    case round =>
      obtain ⟨k, hk, rfl, heq, q, rfl⟩ := hrel
      by_cases hlt : k < a.length
      · obtain ⟨g, rfl, hg, hc⟩ := hs k hlt
        obtain ⟨g2, rfl, hg2, hd⟩ := ht k (by omega)
        have hx : a[k]? = some a[k] := List.getElem?_eq_getElem hlt
        have hy : b[k]? = some (b[k]'(by omega)) := List.getElem?_eq_getElem (by omega)
        rw [hx] at hc
        rw [hy] at hd
        simp only [Option.map_some] at hc hd
        have HX := Lib.hid hx; have HY := Lib.hid hy; have HEQ := Lib.hid heq; have HL := Lib.hid hl
        clear hx hy heq hs ht
        generalize a[k] = x at *
        generalize (b[k]'(by have := HL.out; omega)) = y at *
        have k1 : (k : Int) < a.length := by omega
        have k2 : (k : Int) < b.length := by omega
        clear hl
        by_cases he : x = y
        · subst he
          have EQ := Lib.hid (show a.take (k + 1) = b.take (k + 1) from by rw [List.take_add_one, List.take_add_one, HX.out, HY.out, HEQ.out])
          go_wp2_with fail
          go_region
          all_goals go_wp2_with fail
          all_goals exact ⟨⟨k + 1, by omega, by go_num, EQ.out, q + 1, rfl⟩, by simp [intOf]; omega⟩
        · have he2 : (x != y) = true := by rw [bne_iff_ne]; exact he
          have E := Lib.hid (decide_eq_false (show ¬ a = b from fun e => he (by have h1 := HX.out; have h2 := HY.out; rw [e, h2] at h1; injection h1 with h1; exact h1.symm)))
          clear he
          go_wp2_with fail
          go_region
          all_goals go_wp2_with fail
          all_goals go_ret
          all_goals exact ⟨by rw [E.out]; rfl, q + 1, rfl⟩
      · obtain rfl : k = a.length := by omega
        have E := Lib.hid (decide_eq_true (show a = b from by rw [List.take_length, hl, List.take_length] at heq; exact heq))
        clear heq hl
        go_wp2_with fail
        go_ret
        exact ⟨by rw [E.out]; rfl, q, rfl⟩
  · have hl' : ((a.length : Int) != b.length) = true := by rw [bne_iff_ne]; omega
    have E := Lib.hid (decide_eq_false (show ¬ a = b from fun e => hl (by rw [e])))
    clear hl
    go_enter Try.func22, Try.ntmps22
    go_wp2_with fail
    go_ret
    exact QRet.mk0 (by rw [E.out]; rfl)

end Go.Proofs.Ytnokhajjcjfbpaa
/- merge: rows of elements of one width; hashes; what is known. -/
namespace Go.Proofs.Ytnokhajjcjfbpaa
open Go.RowKit Go.Shelf

theorem rng_after {W W' : World} {b o : Nat} {cs : List Value} (h : W.rangeAt b o cs) (hl : b < W.heap.size) (hb : Below W.heap.size W W') : W'.rangeAt b o cs := fun j v hv => (hb.cell (p := ⟨b, o + j, none⟩) hl).trans (h j v hv)
/-- The slice at A holds these elements, of S cells each. -/
def RowG (W : World) (A : Option Addr) (S : Nat) (xs : List (List Value)) : Prop := ∀ k x, xs[k]? = some x → ∃ b o, A = some ⟨b, o, none⟩ ∧ b < W.heap.size ∧ W.rangeAt b (o + k * S) x
theorem RowG.after {W W' : World} {A : Option Addr} {S : Nat} {xs : List (List Value)} (h : RowG W A S xs) (hb : Below W.heap.size W W') : RowG W' A S xs := fun k x hk => by
  obtain ⟨b, o, e, h1, h2⟩ := h k x hk
  exact ⟨b, o, e, by have := hb.size; omega, rng_after h2 h1 hb⟩
theorem flat_at : ∀ (xs : List (List Value)) (S k : Nat) (x : List Value) (j : Nat) (v : Value), (∀ x ∈ xs, x.length = S) → xs[k]? = some x → x[j]? = some v → xs.flatten[k * S + j]? = some v
  | [], _, _, _, _, _, _, h, _ => by cases h
  | y :: xs, S, 0, x, j, v, hw, hk, hj => by
    cases hk
    have hl := hw y (List.mem_cons_self)
    have := (List.getElem?_eq_some_iff.1 hj).1
    rw [List.flatten_cons, Nat.zero_mul, Nat.zero_add, List.getElem?_append_left this]
    exact hj
  | y :: xs, S, k + 1, x, j, v, hw, hk, hj => by
    have hl := hw y (List.mem_cons_self)
    have ih := flat_at xs S k x j v (fun x hx => hw x (List.mem_cons_of_mem _ hx)) (by simpa using hk) hj
    rw [List.flatten_cons, List.getElem?_append_right (by rw [hl, Nat.succ_mul]; omega), hl, show (k + 1) * S + j - S = k * S + j from by rw [Nat.succ_mul]; omega]
    exact ih
theorem flat_width : ∀ (xs : List (List Value)) (S : Nat), (∀ x ∈ xs, x.length = S) → xs.flatten.length = xs.length * S
  | [], _, _ => by simp
  | y :: xs, S, hw => by
    rw [List.flatten_cons, List.length_append, flat_width xs S (fun x hx => hw x (List.mem_cons_of_mem _ hx)), hw y (List.mem_cons_self), List.length_cons, Nat.succ_mul]
    omega
theorem RowG.of_own {W : World} {base n c S : Nat} {e : TypeId} {A : Option Addr} {xs : List (List Value)} (h : W.ownsRow base e S (.slice A n c) n xs.flatten) (hn : n = xs.length) (hw : ∀ x ∈ xs, x.length = S) : RowG W A S xs := fun k x hk => by
  have hlt := (List.getElem?_eq_some_iff.1 hk).1
  rcases h.2 with ⟨hv, h0⟩ | ⟨g, cap, cur, hv, _, hg, _⟩
  · omega
  · injection hv with hA hb hc
    subst hA
    subst hc
    refine ⟨g, 0, rfl, (Array.getElem?_eq_some_iff.1 hg).1, fun j v hv => ?_⟩
    have hx := hw x (List.mem_of_getElem? hk)
    have hj := (List.getElem?_eq_some_iff.1 hv).1
    have hb : k * S + j < n * S := by
      have : (k + 1) * S ≤ n * S := Nat.mul_le_mul_right _ (by omega)
      rw [Nat.succ_mul] at this
      omega
    rw [Nat.zero_add, h.cellAt _ hb]
    exact flat_at xs S k x j v hw hk hv

/-- The cells of a hash. -/
def hc (h : List Int) : List Value := h.map (Value.int .u8)
theorem hc_len (h : List Int) : (hc h).length = h.length := by simp [hc]
/-- A slice of hashes. -/
def HashG (W : World) (A : Option Addr) (hs : List (List Int)) : Prop := RowG W A 32 (hs.map hc) ∧ ∀ h ∈ hs, h.length = 32
theorem HashG.after {W W' : World} {A : Option Addr} {hs : List (List Int)} (h : HashG W A hs) (hb : Below W.heap.size W W') : HashG W' A hs := ⟨h.1.after hb, h.2⟩
theorem HashG.at {W : World} {A : Option Addr} {hs : List (List Int)} (h : HashG W A hs) {k : Nat} {x : List Int} (hk : hs[k]? = some x) : ∃ b o, A = some ⟨b, o, none⟩ ∧ b < W.heap.size ∧ W.rangeAt b (o + k * 32) (hc x) ∧ x.length = 32 := by
  obtain ⟨b, o, e, h1, h2⟩ := h.1 k (hc x) (by rw [List.getElem?_map, hk]; rfl)
  exact ⟨b, o, e, h1, h2, h.2 x (List.mem_of_getElem? hk)⟩
theorem hash_size : (Try.prog.info? 37).map (·.size) = some 32 := by kernel_rfl
theorem hash_eq (w : World) (xs ys : List Int) (hx : xs.length = 32) (hy : ys.length = 32) : (Op.equalIn 10000 37 (.agg (hc xs).toArray) (.agg (hc ys).toArray)).run Try.prog w = .ok (xs == ys) w :=
  run_equalIn_nums w 9998 37 5 32 .u8 Try.underlying37 Try.underlying5 (fun w => Try.sizeOf5 w) xs ys hx hy
theorem hash_var (w : World) (b o : Nat) (x : List Int) (h : w.rangeAt b o (hc x)) (hx : x.length = 32) : (loadVar 37 ⟨b, o, none⟩).run Try.prog w = .ok (.agg (hc x).toArray) w :=
  run_loadVar_mid w b o 37 (hc x) _ h Try.underlying37 rfl (by rw [hash_size, hc_len, hx])
/-- A load of a long value in a drawn region. -/
theorem SeqS.long {P : Program} {ops : Array Oper} {Q : Exit → Act → World → Prop} {S : World → Prop} {o : Oper} {os : List Oper} {a : Act} (t : TypeId) (v : Value) {x : Operand} {p : Addr} (hw : Region.wanted o (yielded ops a.tmps) = true) (ho : o.op = .load t x) (hx : a.eval x = .pointer (some p))
    (h : ∀ w, S w → (loadVar t p).run P w = .ok v w) (hr : SeqS P ops S Q os (a.put o.dst v)) : SeqS P ops S Q (o :: os) a :=
  SeqS.take hw (fun w hS => by
    unfold execOp
    simp only [ho, hx, Instr.loadAt, Instr.sureAddr, Sem.run_bind, Sem.run_pure, Result.andThen_ok, h w hS]) hr

set_option maxHeartbeats 2000000 in
/-- The document's Hashes: are two lists of hashes the same? -/
theorem hashes_any (a b : List (List Int)) (A B : Option Addr) (c d : Nat) (w : World) (ha : a.length ≤ 1000000) (hs : HashG w A a) (ht : HashG w B b) : Calls Try.prog 23 #[.slice A a.length c, .slice B b.length d] w (NRet (.bool (decide (a = b))) w) := by
  by_cases hl : a.length = b.length
  · have hl' : (a.length : Int) = b.length := by omega
    go_enter Try.func23, Try.ntmps23
    go_wp2_with fail
    go_loopw [5] (fun v wr => ∃ k : Nat, k ≤ a.length ∧ v = .int .i64 k ∧ a.take k = b.take k ∧ Below w.heap.size w wr) (fun v _ => a.length - (intOf v).toNat)
    case atStart => exact ⟨0, by omega, rfl, by simp, Below.refl _ _⟩
    case round =>
      obtain ⟨k, hk, rfl, heq, hbel⟩ := hrel
      by_cases hlt : k < a.length
      · have hx : a[k]? = some a[k] := List.getElem?_eq_getElem hlt
        have hy : b[k]? = some (b[k]'(by omega)) := List.getElem?_eq_getElem (by omega)
        obtain ⟨g1, o1, rfl, hg1, r1, x1⟩ := hs.at hx
        obtain ⟨g2, o2, rfl, hg2, r2, y1⟩ := ht.at hy
        have HX := Lib.hid hx; have HY := Lib.hid hy; have HEQ := Lib.hid heq; have HL := Lib.hid hl
        clear hx hy heq hs ht
        generalize a[k] = x at *
        generalize (b[k]'(by have := HL.out; omega)) = y at *
        have k1 : (k : Int) < a.length := by omega
        have k2 : (k : Int) < b.length := by omega
        have L1 := Lib.hid fun (W : World) (hW : Below w.heap.size w W) => hash_var W g1 (o1 + k * 32) x (rng_after r1 hg1 hW) x1
        have L2 := Lib.hid fun (W : World) (hW : Below w.heap.size w W) => hash_var W g2 (o2 + k * 32) y (rng_after r2 hg2 hW) y1
        have NE := Lib.hid fun (W : World) => hash_eq W x y x1 y1
        clear hl r1 r2
        generalize (hc x).toArray = cx at *
        generalize (hc y).toArray = cy at *
        clear hg1 hg2
        by_cases he : x = y
        · have he2 : (x == y) = true := by rw [he]; simp
          rw [he2] at NE
          have EQ := Lib.hid (show a.take (k + 1) = b.take (k + 1) from by rw [List.take_add_one, List.take_add_one, HX.out, HY.out, HEQ.out, he])
          clear he he2
          go_wp2_with fail
          refine wp_region_seq (S := fun W => Below w.heap.size w W) (by kernel_rfl) (by kernel_rfl) hbel.drew ?_
          repeat (first
            | (refine SeqS.skip ?_ ?_; rfl; (try simp only [Act.put, List.setIfInBounds_toArray, List.set_cons_zero, List.set_cons_succ]))
            | ((first | (refine SeqS.long (x := .tmp 19) 37 (.agg cx) ?_ rfl rfl (fun w hS => L1.out w hS) ?_; rfl) | (refine SeqS.long (x := .tmp 23) 37 (.agg cy) ?_ rfl rfl (fun w hS => L2.out w hS) ?_; rfl)); (try simp only [Act.put, List.setIfInBounds_toArray, List.set_cons_zero, List.set_cons_succ]))
            | (refine SeqS.take (v := ?_) ?_ ?_ ?_; rotate_left; rfl; (intro w hS; have ne := NE.out w; go_simp; with_reducible rfl); (try simp only [Act.put, List.setIfInBounds_toArray, List.set_cons_zero, List.set_cons_succ]))
            | (refine SeqS.call (v := ?_) (f := ?_) (args := ?_) ?_ ?_ ?_ ?_; rotate_left 3; rfl; (intro w hS; have ne := NE.out w; go_simp; (first | with_reducible rfl | (refine ⟨?_, ?_⟩ <;> with_reducible rfl))); (intro w hS; first | ((with_reducible refine (KK.out _).mono ?_); rintro e w' ⟨rfl, hb⟩; refine ⟨?_, HST.out _ _ hS hb⟩; with_reducible rfl)); (try simp only [Act.put, List.setIfInBounds_toArray, List.set_cons_zero, List.set_cons_succ])))
          refine SeqS.done ?_
          rintro wz hz
          go_wp2_with fail
          exact ⟨⟨k + 1, by omega, by go_num, EQ.out, hz⟩, by simp [intOf]; omega⟩
        · have he2 : (x == y) = false := by rw [beq_eq_false_iff_ne]; exact he
          rw [he2] at NE
          have E := Lib.hid (decide_eq_false (show ¬ a = b from fun e => he (by have h1 := HX.out; have h2 := HY.out; rw [e, h2] at h1; injection h1 with h1; exact h1.symm)))
          clear he he2
          go_wp2_with fail
          refine wp_region_seq (S := fun W => Below w.heap.size w W) (by kernel_rfl) (by kernel_rfl) hbel.drew ?_
          repeat (first
            | (refine SeqS.skip ?_ ?_; rfl; (try simp only [Act.put, List.setIfInBounds_toArray, List.set_cons_zero, List.set_cons_succ]))
            | ((first | (refine SeqS.long (x := .tmp 19) 37 (.agg cx) ?_ rfl rfl (fun w hS => L1.out w hS) ?_; rfl) | (refine SeqS.long (x := .tmp 23) 37 (.agg cy) ?_ rfl rfl (fun w hS => L2.out w hS) ?_; rfl)); (try simp only [Act.put, List.setIfInBounds_toArray, List.set_cons_zero, List.set_cons_succ]))
            | (refine SeqS.take (v := ?_) ?_ ?_ ?_; rotate_left; rfl; (intro w hS; have ne := NE.out w; go_simp; with_reducible rfl); (try simp only [Act.put, List.setIfInBounds_toArray, List.set_cons_zero, List.set_cons_succ]))
            | (refine SeqS.call (v := ?_) (f := ?_) (args := ?_) ?_ ?_ ?_ ?_; rotate_left 3; rfl; (intro w hS; have ne := NE.out w; go_simp; (first | with_reducible rfl | (refine ⟨?_, ?_⟩ <;> with_reducible rfl))); (intro w hS; first | ((with_reducible refine (KK.out _).mono ?_); rintro e w' ⟨rfl, hb⟩; refine ⟨?_, HST.out _ _ hS hb⟩; with_reducible rfl)); (try simp only [Act.put, List.setIfInBounds_toArray, List.set_cons_zero, List.set_cons_succ])))
          refine SeqS.done ?_
          rintro wz hz
          go_wp2_with fail
          go_ret
          exact ⟨by rw [E.out]; rfl, hz⟩
      · obtain rfl : k = a.length := by omega
        have E := Lib.hid (decide_eq_true (show a = b from by rw [List.take_length, hl, List.take_length] at heq; exact heq))
        clear heq hl
        go_wp2_with fail
        go_ret
        exact ⟨by rw [E.out]; rfl, hbel⟩
  · have hl' : ((a.length : Int) != b.length) = true := by rw [bne_iff_ne]; omega
    have E := Lib.hid (decide_eq_false (show ¬ a = b from fun e => hl (by rw [e])))
    clear hl
    go_enter Try.func23, Try.ntmps23
    go_wp2_with fail
    go_ret
    exact ⟨by rw [E.out]; rfl, Below.refl _ _⟩
end Go.Proofs.Ytnokhajjcjfbpaa
/- merge: slices that a call fills, under a header of its own. -/
namespace Go.Proofs.Ytnokhajjcjfbpaa
open Go.RowKit Go.Shelf

theorem grown_put (W : World) (b o : Nat) (u : Value) : W.grownBy (W.setCell ⟨b, o, none⟩ u) (some b) :=
  have hb : Below b W (W.setCell ⟨b, o, none⟩ u) := (Below.refl b W).setCell (Nat.le_refl _) u
  ⟨hb.os, hb.tape, hb.output, hb.size, fun k _ hne => Below.heap_setCell W ⟨b, o, none⟩ u k (fun e => hne (by rw [e]))⟩
theorem list_cell_at (w : World) (t : TypeId) (cs : List Value) : ∀ (j : Nat) (u : Value), cs[j]? = some u → (w.alloc (.cells cs.toArray t)).cell? (Addr.add ⟨w.heap.size, 0, none⟩ j) = some u := fun j u hu => by
  rw [add_zero, (IsBlk.new w t cs.toArray).cell j]
  simpa using hu
/-- A row of the call's own and one element more, made by a composite literal. -/
theorem grow_one {t e : TypeId} {S bytes : Nat} {z : Value} (ht : Try.prog.underlying t = some (.slice e)) (hi : (Try.prog.info? e).map (fun i => (i.zero, i.size, i.bytes)) = some (some z, S, bytes)) (hz : z.cells.size = S) (hS : 0 < S)
    (W : World) (base : Nat) (v : Value) (n : Nat) (xs : List Value) (hown : W.ownsRow base e S v n xs) (hbase : base ≤ W.heap.size) (cs : List Value) (hl : cs.length = S) (h1 : ∀ u ∈ cs, u.oneCell' = true) (hn : n ≤ 1000000) (hby : bytes ≤ 1000000) :
    ∃ A c W', (Builtin.append_ #[t, t] t #[v, .slice (some ⟨W.heap.size, 0, none⟩) 1 1]).run Try.prog (W.alloc (.cells cs.toArray e)) = .ok (.slice A (n + 1) c) W' ∧ W'.ownsRow base e S (.slice A (n + 1) c) (n + 1) (xs ++ cs) ∧ W.grownBy W' v.ownBlock := by
  obtain ⟨i, hi, hz0, hz1, hz2⟩ := info_parts hi
  have hb2 : (n + 1) * bytes ≤ 1000001 * 1000000 := Nat.mul_le_mul (by omega) hby
  obtain ⟨v', W', hrun, h2, h3, _⟩ := run_append_own_at (P := Try.prog) (W.alloc (.cells cs.toArray e)) base t t e i z S bytes ht hi hz0 hz1 hz2 hz hS v n xs (hown.alloc _) ⟨W.heap.size, 0, none⟩ 1 1 cs (by omega) (list_cell_at W e cs) h1 (by simp only [maxLen]; omega) (by omega) (by simp; omega)
  have hsh : ∃ A c, v' = .slice A (n + 1) c := by
    rcases h2.2 with ⟨_, h0⟩ | ⟨g, cap, cur, hv, _⟩
    · omega
    · exact ⟨_, _, hv⟩
  obtain ⟨A, c, rfl⟩ := hsh
  exact ⟨A, c, W', hrun, h2, (World.grownBy_alloc _ _ _).trans h3⟩
theorem intq_info : (Try.prog.info? 3).map (fun i => (i.zero, i.size, i.bytes)) = some (some (.int .i64 0), 1, 8) := by kernel_rfl
theorem hash_info : (Try.prog.info? 37).map (fun i => (i.zero, i.size, i.bytes)) = some (some (.agg (List.replicate 32 (.int .u8 0)).toArray), 32, 32) := by kernel_rfl
theorem hc_one (h : List Int) : ∀ u ∈ hc h, u.oneCell' = true := fun u hu => by
  obtain ⟨z, _, rfl⟩ := List.mem_map.1 hu
  rfl
/-- The slice value v, of the call's own from base on, holds these numbers. -/
def OwnI (W : World) (base : Nat) (v : Value) (l : List Int) : Prop := W.ownsRow base 3 1 v l.length (l.map (Value.int .i64))
/-- .. these hashes. -/
def OwnH (W : World) (base : Nat) (v : Value) (l : List (List Int)) : Prop := W.ownsRow base 37 32 v l.length (l.map hc).flatten ∧ ∀ h ∈ l, h.length = 32
theorem grow_int {W : World} {base : Nat} {v : Value} {l : List Int} (h : OwnI W base v l) (hbase : base ≤ W.heap.size) (x : Int) (hn : l.length ≤ 1000000) :
    ∃ A c W', (Builtin.append_ #[29, 29] 29 #[v, .slice (some ⟨W.heap.size, 0, none⟩) 1 1]).run Try.prog (W.alloc (.cells #[.int .i64 x] 3)) = .ok (.slice A (l.length + 1) c) W' ∧ OwnI W' base (.slice A (l.length + 1) c) (l ++ [x]) ∧ W.grownBy W' v.ownBlock := by
  obtain ⟨A, c, W', h1, h2, h3⟩ := grow_one (t := 29) Try.underlying29 intq_info rfl (by decide) W base v _ _ h hbase [.int .i64 x] rfl (by simp [Value.oneCell']) hn (by decide)
  refine ⟨A, c, W', h1, ?_, h3⟩
  unfold OwnI
  simpa using h2
theorem grow_hash {W : World} {base : Nat} {v : Value} {l : List (List Int)} (h : OwnH W base v l) (hbase : base ≤ W.heap.size) (x : List Int) (hx : x.length = 32) (hn : l.length ≤ 1000000) :
    ∃ A c W', (Builtin.append_ #[23, 23] 23 #[v, .slice (some ⟨W.heap.size, 0, none⟩) 1 1]).run Try.prog (W.alloc (.cells (hc x).toArray 37)) = .ok (.slice A (l.length + 1) c) W' ∧ OwnH W' base (.slice A (l.length + 1) c) (l ++ [x]) ∧ W.grownBy W' v.ownBlock := by
  obtain ⟨A, c, W', h1, h2, h3⟩ := grow_one (t := 23) Try.underlying23 hash_info (by decide) (by decide) W base v _ _ h.1 hbase (hc x) (by rw [hc_len, hx]) (hc_one x) hn (by decide)
  refine ⟨A, c, W', h1, ⟨?_, fun y hy => ?_⟩, h3⟩
  · simpa using h2
  · rcases List.mem_append.1 hy with hy | hy
    · exact h.2 y hy
    · simp at hy
      rw [hy, hx]
theorem OwnI.nil (W : World) (base : Nat) : OwnI W base (.slice none 0 0) [] := World.ownsRow_nil _ _ _ _
theorem OwnH.nil (W : World) (base : Nat) : OwnH W base (.slice none 0 0) [] := ⟨World.ownsRow_nil _ _ _ _, by simp⟩
/-- Rows of different types of element lie apart. -/
theorem rows_apart {W : World} {b1 b2 : Nat} {e1 e2 : TypeId} {s1 s2 n1 n2 : Nat} {v1 v2 : Value} {x1 x2 : List Value} (h1 : W.ownsRow b1 e1 s1 v1 n1 x1) (h2 : W.ownsRow b2 e2 s2 v2 n2 x2) (he : e1 ≠ e2) : v1.ownBlock = none ∨ v1.ownBlock ≠ v2.ownBlock := by
  rcases h1.2 with ⟨hv, _⟩ | ⟨g, cap, cur, hv, _, hg, _⟩
  · exact .inl (by rw [hv]; rfl)
  · rcases h2.2 with ⟨hv2, _⟩ | ⟨g2, cap2, cur2, hv2, _, hg2, _⟩
    · exact .inr (by rw [hv, hv2]; simp [Value.ownBlock])
    · refine .inr fun e => ?_
      rw [hv, hv2] at e
      simp [Value.ownBlock] at e
      subst e
      rw [hg] at hg2
      injection hg2 with hg2
      injection hg2 with _ e2
      exact he e2
theorem row_low {W : World} {base : Nat} {e : TypeId} {S n : Nat} {v : Value} {xs : List Value} (h : W.ownsRow base e S v n xs) {X : Nat} (hX : X < base) : v.ownBlock = none ∨ v.ownBlock ≠ some X := by
  cases hv : v.ownBlock with
  | none => exact .inl rfl
  | some k => exact .inr fun e => by have := (h.lt k hv).1; cases e; omega
theorem row_far {W : World} {base : Nat} {e : TypeId} {S n : Nat} {v : Value} {xs : List Value} (h : W.ownsRow base e S v n xs) {X : Nat} (hX : X < base) (o : Nat) (u : Value) : (W.setCell ⟨X, o, none⟩ u).ownsRow base e S v n xs := h.kept (grown_put W X o u) (row_low h hX)
theorem row_after18 {w w' : World} {base : Nat} {e : TypeId} {size : Nat} {v : Value} {n : Nat} {xs : List Value} (h : w.ownsRow base e size v n xs) (hb : Below w.heap.size w w') : w'.ownsRow base e size v n xs := by
  refine ⟨h.1, ?_⟩
  rcases h.2 with h0 | ⟨g, cap, cur, e, h1, h2, h3⟩
  · exact .inl h0
  · exact .inr ⟨g, cap, cur, e, h1, (hb.block g (Array.getElem?_eq_some_iff.1 h2).1).trans h2, h3⟩
theorem row_shape {w : World} {base : Nat} {e : TypeId} {size n : Nat} {v : Value} {xs : List Value} (h : w.ownsRow base e size v n xs) : ∃ A c, v = .slice A n c := by
  rcases h.2 with ⟨hv, h0⟩ | ⟨g, cap, cur, hv, _⟩
  · exact ⟨none, 0, by rw [hv, h0]⟩
  · exact ⟨_, _, hv⟩
theorem OwnU.row {w : World} {base : Nat} {v : Value} {l : List Nat} (h : OwnU w base v l) : w.ownsRow base 22 1 v l.length ((ints l).map (Value.int .u64)) := h
theorem IntG.own {W : World} {base n c : Nat} {A : Option Addr} {l : List Int} (h : OwnI W base (.slice A n c) l) (hn : n = l.length) : IntG W A l := by
  subst hn
  exact IntG.of_own h rfl
theorem HashG.own {W : World} {base n c : Nat} {A : Option Addr} {l : List (List Int)} (h : OwnH W base (.slice A n c) l) (hn : n = l.length) : HashG W A l := by
  subst hn
  refine ⟨RowG.of_own (h.1) (by simp) fun x hx => ?_, h.2⟩
  obtain ⟨y, hy, rfl⟩ := List.mem_map.1 hx
  rw [hc_len, h.2 y hy]
/-- The header of a part: its targets are T; its gaps and its hashes are the call's own. -/
structure PartH (W : World) (X : Nat) (T : Value) (gs : List Int) (hs : List (List Int)) (G H : Value) : Prop where
  blk : IsBlk W X 31 #[T, G, H]
  ga : OwnI W (X + 1) G gs
  ha : OwnH W (X + 1) H hs
theorem IsBlk.low {W W' : World} {X : Nat} {t : TypeId} {cs : Array Value} (h : IsBlk W X t cs) {r : Option Nat} (hg : W.grownBy W' r) (hr : r = none ∨ r ≠ some X) : IsBlk W' X t cs := (hg.block X h.lt (fun e => by rcases hr with hr | hr; rw [hr] at e; cases e; exact hr e.symm)).trans h
theorem PartH.gap {W W' : World} {X : Nat} {T G H G' : Value} {gs gs' : List Int} {hs : List (List Int)} (h : PartH W X T gs hs G H) (hg : W.grownBy W' G.ownBlock) (ho : OwnI W' (X + 1) G' gs') : PartH (W'.setCell ⟨X, 1, none⟩ G') X T gs' hs G' H ∧ Below X W (W'.setCell ⟨X, 1, none⟩ G') := by
  have hX := h.blk.low hg (row_low h.ga (Nat.lt_succ_self X))
  refine ⟨⟨hX.put 1 G', row_far ho (Nat.lt_succ_self X) _ _, row_far (h.ha.1.kept hg (rows_apart h.ha.1 h.ga (by decide))) (Nat.lt_succ_self X) _ _, h.ha.2⟩, ?_⟩
  exact (Below.grown (Below.refl X W) hg (by have := h.blk.lt; omega) (fun k e => by have := (h.ga.lt k e).1; omega)).setCell (Nat.le_refl _) _
theorem PartH.hash {W W' : World} {X : Nat} {T G H H' : Value} {gs : List Int} {hs hs' : List (List Int)} (h : PartH W X T gs hs G H) (hg : W.grownBy W' H.ownBlock) (ho : OwnH W' (X + 1) H' hs') : PartH (W'.setCell ⟨X, 2, none⟩ H') X T gs hs' G H' ∧ Below X W (W'.setCell ⟨X, 2, none⟩ H') := by
  have hX := h.blk.low hg (row_low h.ha.1 (Nat.lt_succ_self X))
  refine ⟨⟨hX.put 2 H', row_far (h.ga.kept hg (rows_apart h.ga h.ha.1 (by decide))) (Nat.lt_succ_self X) _ _, row_far ho.1 (Nat.lt_succ_self X) _ _, ho.2⟩, ?_⟩
  exact (Below.grown (Below.refl X W) hg (by have := h.blk.lt; omega) (fun k e => by have := (h.ha.1.lt k e).1; omega)).setCell (Nat.le_refl _) _
theorem PartH.grown {W W' : World} {X : Nat} {T G H : Value} {gs : List Int} {hs : List (List Int)} (h : PartH W X T gs hs G H) (hb : Below W.heap.size W W') : PartH W' X T gs hs G H := ⟨h.blk.after hb, row_after18 h.ga hb, row_after18 h.ha.1 hb, h.ha.2⟩
theorem PartH.drew {W : World} {X : Nat} {T G H : Value} {gs : List Int} {hs : List (List Int)} (h : PartH W X T gs hs G H) : PartH W.drew X T gs hs G H := h.grown (Below.refl _ _).drew
/-- The header of a proof. -/
structure ProofH (W : World) (X : Nat) (T : Value) (hs : List (List Int)) (H : Value) : Prop where
  blk : IsBlk W X 26 #[T, H]
  ha : OwnH W (X + 1) H hs
theorem ProofH.hash {W W' : World} {X : Nat} {T H H' : Value} {hs hs' : List (List Int)} (h : ProofH W X T hs H) (hg : W.grownBy W' H.ownBlock) (ho : OwnH W' (X + 1) H' hs') : ProofH (W'.setCell ⟨X, 1, none⟩ H') X T hs' H' ∧ Below X W (W'.setCell ⟨X, 1, none⟩ H') := by
  have hX := h.blk.low hg (row_low h.ha.1 (Nat.lt_succ_self X))
  refine ⟨⟨hX.put 1 H', row_far ho.1 (Nat.lt_succ_self X) _ _, ho.2⟩, ?_⟩
  exact (Below.grown (Below.refl X W) hg (by have := h.blk.lt; omega) (fun k e => by have := (h.ha.1.lt k e).1; omega)).setCell (Nat.le_refl _) _
theorem ProofH.grown {W W' : World} {X : Nat} {T H : Value} {hs : List (List Int)} (h : ProofH W X T hs H) (hb : Below W.heap.size W W') : ProofH W' X T hs H := ⟨h.blk.after hb, row_after18 h.ha.1 hb, h.ha.2⟩

/-- At the list of a plain region's operations: an append whose run is known. -/
theorem wpList_append_run {ops : Array Oper} {rest : List Oper} {o : Oper} {a : Act} {w : World} {Q : Exit → Act → World → Prop} (hgd : o.guard = none) (s x : Operand) (T : TypeId) (ho : o.op = .call { callee := .builtin .append, args := #[s, x], argTypes := #[T, T] }) {vs xs v' : Value} {w' : World}
    (hs : a.eval s = vs) (hx : a.eval x = xs) (hrun : (Builtin.append_ #[T, T] o.type #[vs, xs]).run Try.prog w = .ok v' w') (h : wpList Try.prog ops Q rest (a.put o.dst v') w') : wpList Try.prog ops Q (o :: rest) a w := by
  refine wpList_plain hgd fun K hK => ?_
  unfold Oper.wp execOp
  simp only [ho, resolve, invoke, builtin, Sem.run_bind, Sem.run_pure, Result.andThen_ok, List.map_toArray, List.map_cons, List.map_nil, hs, hx, hrun]
  exact hK _ _ h
/-- In a region that draws its order: a read and a literal that makes memory, whichever comes up first. -/
theorem AnyH.load_make {ops : Array Oper} {Q : Exit → Act → World → Prop} {S : World → Prop} {i j n : Nat} {oi oj : Oper} {listed : Array Bool} {a : Act} {w : World} {v b : Value} {w' : World}
    (hi : opAt ops.toList i = some oi) (hj : opAt ops.toList j = some oj) (hrd : Region.ready .any ops listed = [i, j]) (hri : Region.ready .any ops (listed.setIfInBounds i true) = [j]) (hrj : Region.ready .any ops (listed.setIfInBounds j true) = [i])
    (hwi : Region.wanted oi (yielded ops a.tmps) = true) (hwj : Region.wanted oj (yielded ops a.tmps) = true) (hwi' : Region.wanted oi (yielded ops (a.put oj.dst b).tmps) = true) (hwj' : Region.wanted oj (yielded ops (a.put oi.dst v).tmps) = true)
    (hl : (execOp a.eval oi).run Try.prog w = .ok (.value v) w) (hm : (execOp (a.put oi.dst v).eval oj).run Try.prog w = .ok (.value b) w') (hm' : (execOp a.eval oj).run Try.prog w = .ok (.value b) w') (hl' : (execOp (a.put oj.dst b).eval oi).run Try.prog w' = .ok (.value v) w')
    (hS : S w) (hS' : S w') (hl2 : (listed.setIfInBounds j true).setIfInBounds i true = (listed.setIfInBounds i true).setIfInBounds j true) (ha : (a.put oj.dst b).put oi.dst v = (a.put oi.dst v).put oj.dst b)
    (h : wpAnyH Try.prog .any ops Q S n ((listed.setIfInBounds i true).setIfInBounds j true) ((a.put oi.dst v).put oj.dst b) w') : wpAnyH Try.prog .any ops Q S (n + 1 + 1) listed a w := by
  refine AnyH.two hrd ⟨oi, v, w, hi, hwi, .inl hl, hS, ?_⟩ ⟨oj, b, w', hj, hwj, .inl hm', hS', ?_⟩
  · exact AnyH.one hri ⟨oj, b, w', hj, hwj', .inl hm, hS', h⟩
  · refine AnyH.one hrj ⟨oi, v, w', hi, hwi', .inl hl', hS', ?_⟩
    rw [hl2, ha]
    exact h
/-- A load of a long value, taken first. -/
theorem AnyH.long {ops : Array Oper} {Q : Exit → Act → World → Prop} {S : World → Prop} {i n : Nat} {o : Oper} {listed : Array Bool} {a : Act} {w : World} (t : TypeId) (v : Value) {x : Operand} {p : Addr} (hi : opAt ops.toList i = some o) (hok : takeOK ops listed i = true) (hQ : ∀ c a w, Q (.panic c) (a.put o.dst v) w → Q (.panic c) a w)
    (hw : Region.wanted o (yielded ops a.tmps) = true) (ho : o.op = .load t x) (hx : a.eval x = .pointer (some p)) (h : ∀ w, S w → (loadVar t p).run Try.prog w = .ok v w) (hS : S w) (hk : wpAnyH Try.prog .any ops Q S n (listed.setIfInBounds i true) (a.put o.dst v) w) : wpAnyH Try.prog .any ops Q S (n + 1) listed a w :=
  AnyH.take hi hok hQ hw (fun w hS => by
    unfold execOp
    simp only [ho, hx, Instr.loadAt, Instr.sureAddr, Sem.run_bind, Sem.run_pure, Result.andThen_ok, h w hS]) hS hk
theorem fill_eq : ∀ (l : List Value) (A : Array Value) (k : Nat), A.size = k + l.length → ((l.zipIdx k).foldl (fun cs x => cs.setIfInBounds x.2 x.1) A).toList = A.toList.take k ++ l
  | [], A, k, h => by
    simp at h
    simp only [List.zipIdx_nil, List.foldl_nil, List.append_nil]
    rw [List.take_of_length_le (by simp; omega)]
  | x :: l, A, k, h => by
    simp only [List.length_cons] at h
    rw [List.zipIdx_cons, List.foldl_cons, fill_eq l _ (k + 1) (by simp; omega), Array.toList_setIfInBounds, List.take_add_one, List.take_set_of_le (Nat.le_refl k), List.getElem?_set_self (by simp; omega)]
    simp
theorem fill_all (l : List Value) (A : Array Value) (h : A.size = l.length) : (l.zipIdx).foldl (fun cs x => cs.setIfInBounds x.2 x.1) A = l.toArray := by
  have e := fill_eq l A 0 (by omega)
  simp only [List.take_zero, List.nil_append] at e
  exact Array.toList_inj.1 e
/-- A literal of one hash. -/
theorem run_build_hash {o : Oper} {ev : Operand → Value} (z : List Int) (hz : z.length = 32) (x : Operand) (ho : o.op = .buildSlice 23 1 #[(0, x)]) (hx : ev x = .agg (hc z).toArray) (w : World) :
    (execOp ev o).run Try.prog w = .ok (.value (.slice (some ⟨w.heap.size, 0, none⟩) 1 1)) (w.alloc (.cells (hc z).toArray 37)) := by
  have hl : (hc z).length = 32 := by rw [hc_len, hz]
  unfold execOp
  rw [ho]
  go_simp
  rw [fill_all _ _ (by rw [hl]; rfl)]
theorem comes_store {o : Oper} {a : Act} {w : World} {T : TypeId} {p u : Value} {w' : World} (x y : Operand) (ho : o.op = .store T x y) (hx : a.eval x = p) (hy : a.eval y = u) (hrun : (Instr.storeAt T p u).run Try.prog w = .ok () w') : Comes Try.prog o a w undef w' := by
  refine .inr ⟨?_, rfl⟩
  simp [execOp, ho, hx, hy, hrun, Result.andThen]
end Go.Proofs.Ytnokhajjcjfbpaa
