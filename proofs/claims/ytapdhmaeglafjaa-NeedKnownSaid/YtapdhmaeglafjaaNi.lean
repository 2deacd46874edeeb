/- The law's works. -/
import Derived.Test.YtapdhmaeglafjaaNh
namespace Go.Proofs.Ytapdhmaeglafjaa
open Go.RowKit Go.Shelf

instance (n : Nat) (ts : List Nat) : Decidable (Valid n ts) := by unfold Valid; infer_instance
/-- The needed ones, with repetitions. -/
def needL (n : Nat) (ts : List Nat) : List Nat := (((ts.flatMap (wayOf n)).filter fun p => topK n p != 0 && !onB n ts (sibOf p)).map sibOf)
theorem onway_mem (n : Nat) (ts : List Nat) (p : Nat) : OnWay n ts p ↔ p ∈ ts.flatMap (wayOf n) := by
  unfold OnWay
  rw [List.mem_flatMap]
theorem needed_mem (n : Nat) (ts : List Nat) (s : Nat) : Needed n ts s ↔ s ∈ needL n ts := by
  unfold Needed needL
  rw [List.mem_map]
  constructor
  · rintro ⟨p, h1, h2, rfl, h3⟩
    refine ⟨p, List.mem_filter.2 ⟨(onway_mem n ts p).1 h1, ?_⟩, rfl⟩
    have h4 : onB n ts (sibOf p) = false := by
      cases h : onB n ts (sibOf p)
      · rfl
      · exact absurd ((onB_iff _ _ _).1 h) h3
    rw [h4]
    simp [h2]
  · rintro ⟨p, h1, rfl⟩
    obtain ⟨h1, h2⟩ := List.mem_filter.1 h1
    simp at h2
    refine ⟨p, (onway_mem n ts p).2 h1, h2.1, rfl, fun h => ?_⟩
    rw [(onB_iff _ _ _).2 h] at h2
    simp at h2
theorem isNeed_one {n : Nat} {ts a b : List Nat} (ha : IsNeed n ts a) (hb : IsNeed n ts b) : a = b := by
  refine List.Perm.eq_of_pairwise (le := fun a b => a < b) (fun x y _ _ h1 h2 => by omega) ha.1 hb.1 ?_
  refine (List.perm_ext_iff_of_nodup ?_ ?_).2 fun x => by rw [ha.2, hb.2]
  · exact ha.1.imp fun h => by omega
  · exact hb.1.imp fun h => by omega
theorem isWays_one {n : Nat} {ts a b : List Nat} (ha : IsWays n ts a) (hb : IsWays n ts b) : a = b := by
  refine List.Perm.eq_of_pairwise (le := fun a b => a < b) (fun x y _ _ h1 h2 => by omega) ha.1 hb.1 ?_
  refine (List.perm_ext_iff_of_nodup ?_ ?_).2 fun x => by rw [ha.2, hb.2]
  · exact ha.1.imp fun h => by omega
  · exact hb.1.imp fun h => by omega

theorem v7a : Valid 7 [0, 3, 4] := by decide +kernel
theorem v7b : Valid 7 [0, 1] := by decide +kernel
theorem i72 : InF 7 2 := by decide +kernel
theorem g72 : goneB 7 [0, 1] 2 = false := by decide +kernel
theorem m72 : movedF 7 [0, 1] 2 = 8 := by decide +kernel
theorem n7 : needL 7 [0, 3, 4] = [1, 2, 5] := by decide +kernel
theorem isNeed7 : IsNeed 7 [0, 3, 4] [1, 2, 5] := ⟨by decide, fun x => by rw [needed_mem, n7]⟩

theorem SliceAt.lit {W : World} {g : Nat} (zs : List Nat) (h : IsBlk W g 22 (zs.map fun x : Nat => Value.int .u64 x).toArray) : SliceAt W (some ⟨g, 0, none⟩) zs := fun k hk => ⟨g, rfl, h.lt, by rw [h.cell k]; simp⟩
/-- What a list that came back says: its slice, its numbers. -/
theorem ListOK.at {l : List Nat} {w w' : World} {e : Ending} (h : ListOK l w e w') : ∃ A c, e = .returned (.tuple #[.slice A l.length c, .int .i64 0]) ∧ SliceAt w' A l ∧ Below w.heap.size w w' := by
  obtain ⟨A, c, rfl, h1, h2⟩ := h
  exact ⟨A, c, rfl, SliceAt.of_own h1 rfl, h2⟩

set_option maxHeartbeats 2000000 in
theorem works_any (w : World) : Calls Try.prog 12 #[] w (NRet (.bool true) w) := by
  have N1 := Lib.hid fun (A : Option Addr) (c : Nat) (w : World) (hs : SliceAt w A [0, 3, 4]) => need_yes 7 [0, 3, 4] A c w (by decide) hs.gen v7a
  have N2 := Lib.hid fun (A : Option Addr) (c : Nat) (w : World) (hs : SliceAt w A [0, 1]) => Moved_yes 7 [0, 1] A c 2 w (by decide) hs.gen v7b i72 g72
  rw [m72] at N2
  go_enter Try.func12, Try.ntmps12
  go_wp2_with fail
  refine (N1.out (some ⟨w.heap.size, 0, none⟩) 3 _ (SliceAt.lit [0, 3, 4] (IsBlk.new w _ _))).mono ?_
  rintro e w1 ⟨l, hl, hok⟩
  obtain rfl := isNeed_one hl isNeed7
  obtain ⟨A1, c1, rfl, hs1, hb1⟩ := hok.at
  have hB1 := Lib.hid (((Below.refl w.heap.size w).alloc (Nat.le_refl _) _).trans (hb1.mono (by simp)))
  obtain ⟨g1, rfl, hg1, _⟩ := hs1 0 (by decide)
  have HS1 := Lib.hid hs1
  clear hl hok hs1 hb1
  have hsz := hB1.out.size
  simp only [List.length_cons, List.length_nil]
  go_wp2_with fail
  refine (N2.out (some ⟨w1.heap.size, 0, none⟩) 2 _ (SliceAt.lit [0, 1] (IsBlk.new w1 _ _))).mono ?_
  rintro e w2 ⟨rfl, hb2⟩
  have hB2 := Lib.hid (((Below.refl w1.heap.size w1).alloc (Nat.le_refl _) _).trans (hb2.mono (by simp)))
  have hS2 := HS1.out.after hB2.out
  clear hb2
  obtain ⟨_, rfl0, hg2, r0⟩ := hS2 0 (by decide)
  obtain ⟨_, rfl1, _, r1⟩ := hS2 1 (by decide)
  obtain ⟨_, rfl2, _, r2⟩ := hS2 2 (by decide)
  cases rfl0; cases rfl1; cases rfl2
  simp at r0 r1 r2
  go_wp2_with fail
  go_ret
  exact ⟨rfl, hB1.out.trans (hB2.out.mono hsz)⟩
end Go.Proofs.Ytapdhmaeglafjaa
