/- The library's iterators over a slice of numbers of 64 bits; a way, upwards. -/
import Derived.Test.YtnokhajjcjfbpaaPosWc
namespace Go.Proofs.Ytnokhajjcjfbpaa
open Go.RowKit Go.Shelf
attribute [local go_sem] Oper.semAt_some

/-- The slice at A holds these numbers. -/
def SliceAt (W : World) (A : Option Addr) (zs : List Nat) : Prop := ∀ k, k < zs.length → ∃ g, A = some ⟨g, 0, none⟩ ∧ g < W.heap.size ∧ W.cell? ⟨g, k, none⟩ = (zs[k]?).map fun x : Nat => Value.int .u64 x
/-- The slice's block lies as it lay. -/
def KpA (A : Option Addr) (W W' : World) : Prop := ∀ g, A = some ⟨g, 0, none⟩ → W.heap.size ≤ W'.heap.size ∧ W'.heap[g]? = W.heap[g]?
section
variable {A : Option Addr} {W W' : World} {zs : List Nat}
theorem KpA.trans {X Y Z : World} (h : KpA A X Y) (k : KpA A Y Z) : KpA A X Z := fun g e => ⟨Nat.le_trans (h g e).1 (k g e).1, (k g e).2.trans (h g e).2⟩
theorem KpA.of_below {B : Nat} (hb : Below B W W') (hA : ∀ g, A = some ⟨g, 0, none⟩ → g < B) : KpA A W W' := fun g e => ⟨hb.size, hb.block g (hA g e)⟩
theorem KpA.put {w : World} (hA : ∀ g, A = some ⟨g, 0, none⟩ → g < w.heap.size) (W : World) (l : Nat) (o o' : Obj) (hl : w.heap.size ≤ l) (_ : W.heap[l]? = some o) (_ : o.isCells = false) (_ : o.isWalk = false) : KpA A W (W.putObj l o') :=
  fun g e => ⟨by simp, World.putObj_heap_other (by have := hA g e; omega)⟩
theorem cell_same {p : Addr} (h : W'.heap[p.block]? = W.heap[p.block]?) : W'.cell? p = W.cell? p := by unfold World.cell?; rw [h]
theorem SliceAt.kept (h : SliceAt W A zs) (hk : KpA A W W') : SliceAt W' A zs := fun k hlt => by
  obtain ⟨g, e, h1, h2⟩ := h k hlt
  exact ⟨g, e, by have := (hk g e).1; omega, (cell_same (p := ⟨g, k, none⟩) (hk g e).2).trans h2⟩
theorem SliceAt.of_own {B n c : Nat} (h : W.ownsRow B 22 1 (.slice A n c) n ((ints zs).map (Value.int .u64))) (hn : n = zs.length) : SliceAt W A zs := fun k hk => by
  obtain ⟨g, e, _, h1, h2⟩ := own_at h (k := k) (by omega)
  refine ⟨g, e, h1, ?_⟩
  rw [h2, List.getElem?_map, ints, List.getElem?_map]
  cases zs[k]? <;> rfl
theorem SliceAt.below {B : Nat} (h : SliceAt W A zs) (hb : Below B W W') (hA : ∀ g, A = some ⟨g, 0, none⟩ → g < B) : SliceAt W' A zs := h.kept (KpA.of_below hb hA)
theorem SliceAt.after (h : SliceAt W A zs) (hb : Below W.heap.size W W') : SliceAt W' A zs := fun k hk => by
  obtain ⟨g, e, h1, h2⟩ := h k hk
  exact ⟨g, e, by have := hb.size; omega, (hb.cell (p := ⟨g, k, none⟩) h1).trans h2⟩
end

/-- The same of a slice that may stand anywhere (one that came in). -/
def SliceG (W : World) (A : Option Addr) (zs : List Nat) : Prop := ∀ k, k < zs.length → ∃ ad : Addr, A = some ad ∧ ad.block < W.heap.size ∧ W.cell? (ad.add k) = (zs[k]?).map fun x : Nat => Value.int .u64 x
theorem add_block (ad : Addr) (j : Nat) : ad.block = (ad.add j).block := by
  unfold Addr.add
  split <;> rfl
theorem add_zero (g k : Nat) : Addr.add ⟨g, 0, none⟩ k = ⟨g, k, none⟩ := by
  unfold Addr.add
  split
  · rename_i h0; subst h0; rfl
  · simp
theorem SliceAt.gen {W : World} {A : Option Addr} {zs : List Nat} (h : SliceAt W A zs) : SliceG W A zs := fun k hk => by
  obtain ⟨g, e, h1, h2⟩ := h k hk
  exact ⟨_, e, h1, by rw [add_zero]; exact h2⟩
theorem SliceG.below {W W' : World} {A : Option Addr} {zs : List Nat} {B : Nat} (h : SliceG W A zs) (hb : Below B W W') (hA : ∀ ad, A = some ad → ad.block < B) : SliceG W' A zs := fun k hk => by
  obtain ⟨ad, e, h1, h2⟩ := h k hk
  have := hA ad e
  exact ⟨ad, e, by have := hb.size; omega, (hb.cell (p := ad.add k) (add_block ad k ▸ this)).trans h2⟩
theorem SliceG.after {W W' : World} {A : Option Addr} {zs : List Nat} (h : SliceG W A zs) (hb : Below W.heap.size W W') : SliceG W' A zs := fun k hk => by
  obtain ⟨ad, e, h1, h2⟩ := h k hk
  exact ⟨ad, e, by have := hb.size; omega, (hb.cell (p := ad.add k) (add_block ad k ▸ h1)).trans h2⟩

set_option maxHeartbeats 1000000 in
theorem vals_list (zs : List Nat) (A : Option Addr) (c n b : Nat) (w : World) (hn : 1 ≤ n) (hlen : zs.length ≤ 1000000) (hb : IsBlk w b 24 #[.slice A zs.length c]) (hs : SliceAt w A zs) :
    SeqList Fence.wide n Try.prog 64 #[.pointer (some ⟨b, 0, none⟩)] (fun x : Nat => #[.int .u64 x]) (fun _ => False) (KpA A) zs w := by
  intro l J Jx W hW hJ hJx hY h0
  refine callsIn_of_wp Try.func64 rfl trivial ?_ rfl
  have hB1 := (hb.below hW hb.lt).cell 0
  have hS1 := hs.after hW
  simp only [Try.ntmps64, List.size_toArray, List.length_cons, List.length_nil, Nat.reduceAdd, Nat.reduceSub, Array.replicate_succ, Array.replicate_zero, List.push_toArray, List.append_toArray, List.nil_append, List.cons_append]
  clear hb hs hW
  gi_wp2
  gi_loopw [7] (fun v wr => ∃ k : Nat, k ≤ zs.length ∧ v = .int .i64 k ∧ J k wr ∧ SliceAt wr A zs) (fun v _ => zs.length - (intOf v).toNat)
  case atStart => exact ⟨0, by omega, rfl, h0, hS1⟩
  case round =>
    obtain ⟨k, hk, rfl, hJk, hSk⟩ := hrel
    by_cases hlt : k < zs.length
    · obtain ⟨g, rfl, hg, hc⟩ := hSk k hlt
      have hx : zs[k]? = some zs[k] := List.getElem?_eq_getElem hlt
      rw [hx] at hc
      obtain ⟨fn, tmps, assign, body, hy, hR⟩ := hY k _ wr hx hJk
      have hS := Lib.hid hSk
      clear hSk hS1
      generalize zs[k] = z at *
      have k0 : (0 : Int) ≤ k := by omega
      have k1 : (k : Int) < zs.length := by omega
      simp only [Option.map_some] at hc
      gi_wp2
      refine hR.mono ?_
      rintro e W3 (⟨rfl, hJ3, hk3⟩ | ⟨rfl, hJx3⟩)
      · have hS3 := Lib.hid (hS.out.kept hk3)
        gi_wp2
        exact ⟨⟨k + 1, by omega, by go_num, hJ3, hS3.out⟩, by simp [intOf]; omega⟩
      · gi_wp2
        refine bodyPost_ret (results_none rfl _ _ _) rfl ?_
        exact ⟨⟨_, rfl⟩, .inr ⟨k + 1, by omega, hJx3⟩⟩
    · obtain rfl : k = zs.length := by omega
      gi_wp2
      go_end0
      exact ⟨⟨_, rfl⟩, .inl hJk⟩

theorem values_any (A : Option Addr) (k c : Nat) (w : World) : Calls Try.prog 50 #[.slice A k c] w fun e w' =>
    e = .returned (.func (.func 64) #[] #[.pointer (some ⟨w.heap.size, 0, none⟩)]) ∧ w' = w.alloc (.cells #[.slice A k c] 24) := by
  go_enter Try.func50, Try.ntmps50
  go_wp2_with fail
  go_ret
  exact ⟨rfl, rfl⟩
/-- need.up: the iterator of a way. -/
def UpRet (n p : Nat) (w : World) (e : Ending) (w' : World) : Prop :=
  ∃ B A c, e = .returned (.func (.func 64) #[] #[.pointer (some ⟨B, 0, none⟩)]) ∧ w.heap.size ≤ B ∧ IsBlk w' B 24 #[.slice A (wayOf n p).length c] ∧ SliceAt w' A (wayOf n p) ∧ (∀ g, A = some ⟨g, 0, none⟩ → w.heap.size ≤ g ∧ g < w'.heap.size) ∧ Below w.heap.size w w'
theorem way_short (n p : Nat) : (wayOf n p).length ≤ 64 := by
  by_cases h : InF n p
  · rw [way_len h]
    have h1 := tree_le h
    have h2 := rows_le (n := n) (by have := h.1; omega)
    unfold treeOf at h1
    omega
  · rw [way_out h]
    simp
set_option maxHeartbeats 1000000 in
theorem nup_any (n p : Nat) (w : World) (hnu : (n : Int) ≤ 18446744073709551615) (hpu : (p : Int) ≤ 18446744073709551615) : Calls Try.prog 37 #[.int .u64 n, .int .u64 p] w (UpRet n p w) := by
  have hw := way_any n p w hnu hpu
  go_enter Try.func37, Try.ntmps37
  go_wp2_with fail
  refine hw.mono ?_
  rintro e w1 ⟨A, c, rfl, hown, hbel⟩
  have hS := SliceAt.of_own hown (by rw [ints_len])
  have hA : ∀ g, A = some ⟨g, 0, none⟩ → w.heap.size ≤ g ∧ g < w1.heap.size := fun g e => by
    rcases hown.2 with ⟨h1, h2⟩ | ⟨g', cap, cur, h1, h2, h3, _⟩
    · injection h1 with h1
      rw [e] at h1
      cases h1
    · injection h1 with h1
      rw [e] at h1
      injection h1 with h1
      injection h1 with h1
      subst h1
      exact ⟨h2, (Array.getElem?_eq_some_iff.1 h3).1⟩
  have HS := Lib.hid hS; have HA := Lib.hid hA; have HB := Lib.hid hbel
  clear hw hown hS hA hbel
  rw [ints_len]
  go_wp2_with (go_at_call 50; refine (values_any _ _ _ _).mono ?_; rintro e w' ⟨rfl, rfl⟩)
  go_ret
  have hsz := HB.out.size
  exact ⟨w1.heap.size, A, c, rfl, hsz, IsBlk.new _ _ _, HS.out.after ((Below.refl _ w1).alloc (by simp) _), fun g e => ⟨(HA.out g e).1, by have := (HA.out g e).2; simp; omega⟩, HB.out.alloc hsz _⟩

/-- The last number first, each with its index. -/
def backOf (zs : List Nat) : List (Nat × Nat) := (List.range zs.length).map fun k => (zs.length - 1 - k, zs.getD (zs.length - 1 - k) 0)
theorem backOf_len (zs : List Nat) : (backOf zs).length = zs.length := by simp [backOf]
theorem backOf_at {zs : List Nat} {k : Nat} (hk : k < zs.length) : (backOf zs)[k]? = some (zs.length - 1 - k, zs.getD (zs.length - 1 - k) 0) := by
  unfold backOf
  rw [List.getElem?_map, List.getElem?_range hk]
  rfl
/-- Blocks of a slice and of its box lie as they lay. -/
def KpB (b : Nat) (A : Option Addr) (W W' : World) : Prop := KpA A W W' ∧ W'.heap[b]? = W.heap[b]?
theorem KpB.trans {b : Nat} {A : Option Addr} {X Y Z : World} (h : KpB b A X Y) (k : KpB b A Y Z) : KpB b A X Z := ⟨h.1.trans k.1, k.2.trans h.2⟩
theorem KpB.put {b : Nat} {A : Option Addr} {w : World} (hb : b < w.heap.size) (hA : ∀ g, A = some ⟨g, 0, none⟩ → g < w.heap.size) (W : World) (l : Nat) (o o' : Obj) (hl : w.heap.size ≤ l) (h1 : W.heap[l]? = some o) (h2 : o.isCells = false) (h3 : o.isWalk = false) : KpB b A W (W.putObj l o') :=
  ⟨KpA.put hA W l o o' hl h1 h2 h3, World.putObj_heap_other (by omega)⟩

end Go.Proofs.Ytnokhajjcjfbpaa
