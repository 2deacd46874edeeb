/- rising of a map from uint64 to int: its keys, rising. -/
import Derived.Test.YtnokhajjcjfbpaaKeU
import Derived.Test.YtnokhajjcjfbpaaSoD
import Derived.Test.YtnokhajjcjfbpaaPosWc
namespace Go.Proofs.Ytnokhajjcjfbpaa
open Go.RowKit Go.Maps Go.Sort Go.Shelf Go.Proofs

theorem sortsU (m : Nat) : ksU_SortsIn Fence.wide m :=
  ⟨fun blk off cap ss W hH hb hs => callsIn_wide.2 (so_slices_Sort blk off cap ss W hH hb hs), fun p cap W => callsIn_wide.2 (so_Sort_nil p cap W)⟩

/-- A rising list of just the numbers that are counted. -/
def Rises (f : Nat → Nat) (l : List Nat) : Prop := l.Pairwise (fun a b => a < b) ∧ ∀ x : Nat, x ∈ l ↔ ((x : Int) ≤ 18446744073709551615 ∧ 0 < f x)

theorem rises_one {f : Nat → Nat} {a b : List Nat} (ha : Rises f a) (hb : Rises f b) : a = b := by
  refine List.Perm.eq_of_pairwise (le := fun a b => a < b) (fun x y _ _ h1 h2 => by omega) ha.1 hb.1 ?_
  refine (List.perm_ext_iff_of_nodup ?_ ?_).2 fun x => by rw [ha.2, hb.2]
  · exact ha.1.imp fun h => by omega
  · exact hb.1.imp fun h => by omega

theorem rises_of {f : Nat → Nat} {D : DataW Unit} {ss : List Int} {W : World} {b n : Nat} (hown : W.ownsMap Try.prog 22 (plainElem (H := Unit) Try.prog 3) b n D)
    (h2 : ∀ x : Nat, (x : Int) ≤ 18446744073709551615 → D.atKey (.int .u64 x) (.lit (.int .i64 0)) = .lit (.int .i64 (f x)) ∧ (has D (.int .u64 x) = true ↔ 0 < f x))
    (hk : KeysAreU D ss) : ∃ l : List Nat, Rises f l ∧ l.length = ss.length ∧ ss.mergeSort (fun x y => decide (x ≤ y)) = ints l := by
  have hw : ∀ x ∈ ss, ∃ y : Nat, x = y ∧ (y : Int) ≤ 18446744073709551615 := by
    intro x hx
    have h1 := (hk.2 x).1 hx
    obtain ⟨es', hD', hko⟩ := hown.keysOf
    subst hD'
    rw [has_eq, List.any_eq_true] at h1
    obtain ⟨p, hp, hs⟩ := h1
    obtain ⟨v, hv⟩ := hko p hp
    obtain ⟨y, _, hy, hwf⟩ := Maps.keyOf_int_inv Try.underlying22 hv
    rw [hy] at hs
    have e : y = x := by simpa [Lit.sameKey] using hs
    subst e
    have := wf_u64 hwf
    exact ⟨y.toNat, by omega, by omega⟩
  have tr : ∀ a b c : Int, decide (a ≤ b) = true → decide (b ≤ c) = true → decide (a ≤ c) = true := fun a b c h1 h2 => by simp only [decide_eq_true_eq] at *; omega
  have to : ∀ a b : Int, (decide (a ≤ b) || decide (b ≤ a)) = true := fun a b => by simp only [Bool.or_eq_true, decide_eq_true_eq]; omega
  have hp := List.mergeSort_perm ss (fun x y => decide (x ≤ y))
  have hs := List.pairwise_mergeSort tr to ss
  have hnd := hp.nodup_iff.2 hk.1
  generalize hM : ss.mergeSort (fun x y => decide (x ≤ y)) = M at *
  refine ⟨M.map Int.toNat, ⟨?_, fun x => ?_⟩, ?_, ?_⟩
  · refine List.pairwise_map.2 ((hs.and hnd).imp_of_mem fun {a b} ha hb h => ?_)
    obtain ⟨h1, h3⟩ := h
    simp only [decide_eq_true_eq] at h1
    obtain ⟨x, rfl, _⟩ := hw a (hp.mem_iff.1 ha)
    obtain ⟨y, rfl, _⟩ := hw b (hp.mem_iff.1 hb)
    have : (x : Int) ≠ y := h3
    simp only [Int.toNat_natCast]
    omega
  · rw [List.mem_map]
    constructor
    · rintro ⟨a, ha, rfl⟩
      have hm := hp.mem_iff.1 ha
      obtain ⟨y, rfl, hy⟩ := hw a hm
      simp only [Int.toNat_natCast]
      exact ⟨hy, (h2 y hy).2.1 ((hk.2 _).1 hm)⟩
    · rintro ⟨h1, h3⟩
      exact ⟨(x : Int), hp.mem_iff.2 ((hk.2 _).2 ((h2 x h1).2.2 h3)), Int.toNat_natCast x⟩
  · rw [List.length_map, hp.length_eq]
  · unfold ints
    rw [List.map_map]
    conv => lhs; rw [← List.map_id M]
    refine List.map_congr_left fun a ha => ?_
    obtain ⟨y, rfl, _⟩ := hw a (hp.mem_iff.1 ha)
    simp

set_option maxHeartbeats 1000000 in
theorem rising_any (mb nn : Nat) (f : Nat → Nat) (w : World) (hN : NMap w mb nn f) (hnn : nn ≤ 1000000) :
    Calls Try.prog 27 #[.map (some mb)] w fun e w' => ∃ l : List Nat, Rises f l ∧ ListRet .u64 22 (ints l) w e w' := by
  have hN0 := hN
  obtain ⟨D, hown, h2⟩ := hN
  have hsz := hown.size_le
  refine (callsIn_wide (n := 6)).1 ?_
  refine callsIn_of_wp Try.func27 rfl trivial ?_ rfl
  simp only [Try.ntmps27, List.size_toArray, List.length_cons, List.length_nil, Nat.reduceAdd, Nat.reduceSub, Array.replicate_succ, Array.replicate_zero, List.push_toArray, List.append_toArray, List.nil_append, List.cons_append]
  have hF1 : Fence.wide.fn 41 := trivial
  have hF2 : Fence.wide.fn 40 := trivial
  have hown1 : (w.alloc (.cells #[.map (some mb)] 69)).ownsMap Try.prog 22 (plainElem (H := Unit) Try.prog 3) mb nn D := hown.alloc _
  have cB := (IsBlk.new w 69 #[.map (some mb)]).cell 0
  have cS := ksU_sorted_in Fence.wide 5 trivial trivial trivial trivial rfl (by omega) (sortsU 4) (enters_of Try.func53 (by kernel_rfl) rfl) 54 #[.pointer (some ⟨w.heap.size, 0, none⟩)] trivial
    (enters_of Try.func54 (by kernel_rfl) rfl) (fun ss => KeysAreU D ss) (Maps.size D) (by simp only [maxLen]; omega) (by omega) (w.alloc (.cells #[.map (some mb)] 69))
    (ksU_keys_gives Fence.wide 2 trivial rfl (by omega) w.heap.size mb nn D _ (by simp) cB hown1)
  clear cB
  gi_wp2_with (first
    | (gi_at_call 41; refine (ksU_keys_in Fence.wide 5 trivial rfl (some mb) _).mono ?_; rintro e w' ⟨rfl, rfl⟩)
    | (gi_at_call 40; refine cS.mono ?_; rintro e w' ⟨v, ss, rfl, hS, hrow, hnil, hb⟩))
  go_ret
  obtain ⟨l, hr, hlen, e⟩ := rises_of hown h2 hS
  have hbel : Below w.heap.size w w' := ((Below.refl _ w).alloc (by simp) _).trans (hb.mono (by simp))
  have hrow' : w'.ownsRow w.heap.size 22 1 v ss.length ((ints l).map (Value.int .u64)) := by rw [← e]; exact own_low hrow (by simp)
  have hil : (ints l).length = ss.length := by rw [ints_len, hlen]
  refine ⟨l, hr, ?_⟩
  rcases hrow'.2 with ⟨rfl, h0⟩ | ⟨g, cap, cur, rfl, _⟩
  · exact ⟨none, 0, by rw [hil, h0]; rfl, by rw [hil, h0]; rw [h0] at hrow'; exact hrow', hbel⟩
  · exact ⟨some ⟨g, 0, none⟩, cap, by rw [hil]; rfl, by rw [hil]; exact hrow', hbel⟩
end Go.Proofs.Ytnokhajjcjfbpaa
