/- NeedLeast. -/
import Derived.Test.YtapdhmaeglafjaaLk
import Derived.Test.YtapdhmaeglafjaaMn
import Derived.Test.YtapdhmaeglafjaaLl
namespace Go.Proofs.Ytapdhmaeglafjaa
open Go.RowKit Go.Shelf

theorem take_gen {W : World} {A : Option Addr} {l : List Nat} (hs : SliceG W A l) (m : Nat) : SliceG W A (l.take m) := fun k hk => by
  rw [List.length_take] at hk
  obtain ⟨ad, h1, h2, h3⟩ := hs k (by omega)
  exact ⟨ad, h1, h2, by rw [h3, List.getElem?_take_of_lt (by omega)]⟩

set_option maxHeartbeats 2000000 in
set_option maxRecDepth 100000 in
theorem least_walk (n : Nat) (A : Option Addr) (c : Nat) (l0 : List Nat) (i : Nat) (w : World) (hnu : (n : Int) ≤ 18446744073709551615) (hl : l0.length ≤ c) (hc : c ≤ maxLen) (hs : SliceG w A l0) (hu : ∀ x ∈ l0, (x : Int) ≤ 18446744073709551615) (hi : i ≤ 255) :
    Calls Try.prog 3 #[.int .u64 n, .slice A l0.length c, .int .u8 i] w (NRet (.bool true) w) := by
  have hc2 : (c : Int) ≤ 9223372036854775807 := by simp only [maxLen] at hc; omega
  have hl2 : (l0.length : Int) ≤ c := by omega
  have hs1 := take_gen hs 8
  have hut : ∀ x ∈ l0.take 8, (x : Int) ≤ 18446744073709551615 := fun x hx => hu x (List.mem_of_mem_take hx)
  have e8 : (min (l0.length : Int) 8).toNat = (l0.take 8).length := by rw [List.length_take]; omega
  have hl8 : (l0.take 8).length ≤ 8 := by rw [List.length_take]; omega
  have HS1 := Lib.hid hs1; have HU := Lib.hid hut; have E8 := Lib.hid e8
  clear hs1 hut hs hu e8 hc hl
  go_enter Try.func3, Try.ntmps3
  go_wp2_with fail
  rw [E8.out]
  clear E8 hl2
  generalize l0.take 8 = l at *
  by_cases hv : Valid n l
  · refine (need_yes n l A c w (by omega) HS1.out hv).mono ?_
    rintro e w2 ⟨ln, hn, hok⟩
    obtain ⟨A2, c2, rfl, hown, hb2⟩ := hok
    have hs2 := SliceAt.of_own hown rfl
    have hcap : 0 < ln.length → (ln.length : Int) ≤ c2 := fun h => cap_le hown h
    clear hown
    have HN := Lib.hid hn; have HS2 := Lib.hid hs2; have HB2 := Lib.hid hb2; have HL2 := Lib.hid (SliceG.after HS1.out hb2)
    clear hs2 hb2 hn
    have hln := need_short HN.out
    by_cases h200 : 200 ≤ n
    · have h2 : (200 : Int) ≤ n := by omega
      go_wp2_with fail
      refine (works_any _).mono ?_
      rintro e w9 ⟨rfl, hb⟩
      have HB9 := Lib.hid (HB2.out.trans (hb.mono HB2.out.size))
      clear hb
      go_wp2_with fail
      go_ret
      exact ⟨rfl, HB9.out⟩
    · have h2 : ¬ (200 : Int) ≤ n := by omega
      by_cases h0 : ln = []
      · subst h0
        simp only [List.length_nil] at *
        go_wp2_with fail
        refine (works_any _).mono ?_
        rintro e w9 ⟨rfl, hb⟩
        have HB9 := Lib.hid (HB2.out.trans (hb.mono HB2.out.size))
        clear hb
        go_wp2_with fail
        go_ret
        exact ⟨rfl, HB9.out⟩
      · have hpos : 0 < ln.length := List.length_pos_iff.2 h0
        have hp1 : ((ln.length : Int) == 0) = false := by rw [beq_eq_false_iff_ne]; omega
        have hp2 : (ln.length : Int) ≤ 512 := by omega
        have hp3 : (0 : Int) < ln.length := by omega
        obtain ⟨k, hk⟩ : ∃ k, k = i % ln.length := ⟨_, rfl⟩
        have hkl : k < ln.length := by rw [hk]; exact Nat.mod_lt _ hpos
        have ek : (i : Int) % (ln.length : Int) = (k : Nat) := by rw [hk]; rfl
        have ek2 : (i : Int).tmod (ln.length : Int) = (k : Nat) := by rw [Int.tmod_eq_emod_of_nonneg (by omega)]; exact ek
        have hk1 : (k : Int) < ln.length := by omega
        have hx : ln[k]? = some ln[k] := List.getElem?_eq_getElem hkl
        obtain ⟨g, rfl, hg, hc⟩ := HS2.out k hkl
        rw [hx] at hc
        simp only [Option.map_some] at hc
        obtain ⟨f1, f2, f3, f4, f5⟩ := least hv HN.out hx
        have HX := Lib.hid hx
        clear hx hk
        generalize ln[k] = s at *
        have TR := Lib.hid fun w => tree_yes n s w f1
        have RT := Lib.hid fun w => root_yes n (treeOf n s) w (by omega) (tree_bit f1)
        have RW := Lib.hid fun w => rows_yes n w (by omega)
        have hsu := inF_u64 f1
        have htl := tree_le f1
        have hR := rows_le (n := n) (by omega)
        have hk2 : (k : Int) ≤ c2 := by have := hcap hpos; omega
        have hk3 : (k : Int) + 1 ≤ ln.length := by omega
        have hk4 : (ln.length : Int) ≤ c2 := hcap hpos
        clear hcap
        go_wp2_with fail
        refine (TR.out _).mono ?_
        rintro e w3 ⟨rfl, hb⟩
        have HB3 := Lib.hid (HB2.out.trans (hb.mono HB2.out.size)); have HL3 := Lib.hid (SliceG.after HL2.out hb); have HN3 := Lib.hid (HS2.out.after hb)
        clear hb hg hc
        generalize treeOf n s = h at *
        generalize rootOf n h = r at *
        go_wp2_with (first
          | (go_at_call 14; refine (RT.out _).mono ?_; rintro e w' ⟨rfl, d1, rfl⟩)
          | (go_at_call 15; refine (RW.out _).mono ?_; rintro e w' ⟨rfl, rfl⟩))
        have HB4 := Lib.hid (bel_drewN HB3.out d1); have HL4 := Lib.hid (SliceG.after HL3.out (bel_drewN (Below.refl _ _) d1)); have HN4 := Lib.hid (HN3.out.after (bel_drewN (Below.refl _ _) d1))
        refine wp_gen (fun W => Below w.heap.size w W ∧ SliceG W A l ∧ SliceAt W (some ⟨g, 0, none⟩) ln) ⟨HB4.out, HL4.out, HN4.out⟩ ?_
        rintro w5 ⟨h51, h52, h53⟩
        have HB5 := Lib.hid h51; have HL5 := Lib.hid h52; have HN5 := Lib.hid h53
        clear h51 h52 h53 HB4 HL4 HN4 HB3 HL3 HN3 HL2 HB2 HS1 HS2
        have ew : IntKind.i64.wrap ((k : Int) + 1) = (k : Int) + 1 := IntWalk.i64_in _ (by omega)
        have k0 : (0 : Int) ≤ (k : Int) + 1 := by omega
        have k9 : (k : Int) ≤ (k : Int) + 1 := by omega
        have RT := Lib.hid fun W (h : SliceAt W (some ⟨g, 0, none⟩) ln) (hg : g < W.heap.size) => ru_part (m := ln.take k) (k := 0) h hg (fun j x hx => by rw [Nat.zero_add]; exact get_take hx)
        have GL := Lib.hid fun W (h : SliceAt W (some ⟨g, 0, none⟩) ln) => (show g < W.heap.size from by obtain ⟨_, e, h1, _⟩ := h k hkl; cases e; exact h1)
        by_cases hce : c2 = k + 1
        · have RD := Lib.hid fun (W : World) => ru_nil (ln.drop (k + 1)) W (some ⟨g, 0, none⟩) (List.drop_eq_nil_of_le (by omega))
          subst hce
          refine Held.start 11 (Ext w5) (by kernel_rfl) rfl (Below.refl _ _).drew ?_
          (first | (refine Held.skip (i := 1) rfl (by kernel_rfl) (fun _ _ _ h => h) rfl ?_; (try simp only [Act.put, List.setIfInBounds_toArray, List.set_cons_zero, List.set_cons_succ])) | (refine Held.take (i := 1) (v := ?_) rfl (by kernel_rfl) (fun _ _ _ h => h) rfl ?_ ?_; rotate_left; (intro w hS; skip; go_simp; with_reducible rfl); (try simp only [Act.put, List.setIfInBounds_toArray, List.set_cons_zero, List.set_cons_succ])))
          (first | (refine Held.skip (i := 2) rfl (by kernel_rfl) (fun _ _ _ h => h) rfl ?_; (try simp only [Act.put, List.setIfInBounds_toArray, List.set_cons_zero, List.set_cons_succ])) | (refine Held.take (i := 2) (v := ?_) rfl (by kernel_rfl) (fun _ _ _ h => h) rfl ?_ ?_; rotate_left; (intro w hS; skip; go_simp; with_reducible rfl); (try simp only [Act.put, List.setIfInBounds_toArray, List.set_cons_zero, List.set_cons_succ])))
          (first | (refine Held.skip (i := 3) rfl (by kernel_rfl) (fun _ _ _ h => h) rfl ?_; (try simp only [Act.put, List.setIfInBounds_toArray, List.set_cons_zero, List.set_cons_succ])) | (refine Held.take (i := 3) (v := ?_) rfl (by kernel_rfl) (fun _ _ _ h => h) rfl ?_ ?_; rotate_left; (intro w hS; skip; go_simp; with_reducible rfl); (try simp only [Act.put, List.setIfInBounds_toArray, List.set_cons_zero, List.set_cons_succ])))
          (first | (refine Held.skip (i := 5) rfl (by kernel_rfl) (fun _ _ _ h => h) rfl ?_; (try simp only [Act.put, List.setIfInBounds_toArray, List.set_cons_zero, List.set_cons_succ])) | (refine Held.take (i := 5) (v := ?_) rfl (by kernel_rfl) (fun _ _ _ h => h) rfl ?_ ?_; rotate_left; (intro w hS; skip; go_simp; with_reducible rfl); (try simp only [Act.put, List.setIfInBounds_toArray, List.set_cons_zero, List.set_cons_succ])))
          (first | (refine Held.skip (i := 6) rfl (by kernel_rfl) (fun _ _ _ h => h) rfl ?_; (try simp only [Act.put, List.setIfInBounds_toArray, List.set_cons_zero, List.set_cons_succ])) | (refine Held.take (i := 6) (v := ?_) rfl (by kernel_rfl) (fun _ _ _ h => h) rfl ?_ ?_; rotate_left; (intro w hS; skip; go_simp; with_reducible rfl); (try simp only [Act.put, List.setIfInBounds_toArray, List.set_cons_zero, List.set_cons_succ])))
          (first | (refine Held.skip (i := 7) rfl (by kernel_rfl) (fun _ _ _ h => h) rfl ?_; (try simp only [Act.put, List.setIfInBounds_toArray, List.set_cons_zero, List.set_cons_succ])) | (refine Held.take (i := 7) (v := ?_) rfl (by kernel_rfl) (fun _ _ _ h => h) rfl ?_ ?_; rotate_left; (intro w hS; skip; go_simp; with_reducible rfl); (try simp only [Act.put, List.setIfInBounds_toArray, List.set_cons_zero, List.set_cons_succ])))
          (first | (refine Held.skip (i := 8) rfl (by kernel_rfl) (fun _ _ _ h => h) rfl ?_; (try simp only [Act.put, List.setIfInBounds_toArray, List.set_cons_zero, List.set_cons_succ])) | (refine Held.take (i := 8) (v := ?_) rfl (by kernel_rfl) (fun _ _ _ h => h) rfl ?_ ?_; rotate_left; (intro w hS; skip; go_simp; with_reducible rfl); (try simp only [Act.put, List.setIfInBounds_toArray, List.set_cons_zero, List.set_cons_succ])))
          intro w6 hS6
          have hb6 := hS6.size
          refine AnyH.make (i := 0) rfl (by kernel_rfl) rfl (.slice (some ⟨w6.heap.size, 0, none⟩) 0 0) (w6.alloc (.cells #[] 22)) (by go_simp) (hS6.alloc hb6 _) ?_
          have hS7 : Ext w5 (w6.alloc (.cells #[] 22)) := hS6.alloc hb6 _
          have HO7 := Lib.hid (own_made w6)
          have hz7 : w6.heap.size ≤ (w6.alloc (.cells #[] 22)).heap.size := by simp
          generalize w6.heap.size = b6 at *
          generalize w6.alloc (.cells #[] 22) = w7 at *
          have hn7 := HN5.out.after hS7
          simp only [Act.put, List.setIfInBounds_toArray, List.set_cons_zero, List.set_cons_succ]
          refine AnyH.append (i := 4) rfl (by kernel_rfl) rfl (.tmp 66) (.tmp 69) rfl b6 (.slice (some ⟨b6, 0, none⟩) 0 0) [] rfl _ k _ (ln.take k) rfl (by rw [List.length_take]; omega) HO7.out (RT.out _ hn7 (GL.out _ hn7)) hz7 (by simp; omega) k (by rw [List.length_take]; simp; omega) (ln.take k) rfl ?_
          intro A8 c8 w8 hown8 hg8
          have hS8 : Ext w5 w8 := hS7.grown hg8 hS7.size (fun r e => by cases e; exact hb6)
          have hn8 := HN5.out.after hS8
          have hz8 : b6 ≤ w8.heap.size := by have := hg8.size; omega
          refine ⟨hS8, ?_⟩
          have HO8 := Lib.hid hown8
          clear HO7 hown8 hn7
          simp only [Act.put, List.setIfInBounds_toArray, List.set_cons_zero, List.set_cons_succ]
          refine AnyH.append (i := 9) rfl (by kernel_rfl) rfl (.tmp 70) (.tmp 74) rfl b6 (.slice A8 k c8) (ln.take k) rfl _ _ _ (ln.drop (k + 1)) rfl (by rw [List.length_drop]) HO8.out (RD.out _) hz8 (by rw [List.length_take, List.length_drop]; omega) (k + (ln.length - (k + 1))) (by rw [List.length_take, List.length_drop]; omega) (ln.take k ++ ln.drop (k + 1)) rfl ?_
          intro A9 c9 w9 hown9 hg9
          have hS9 : Ext w5 w9 := hS8.grown hg9 hS8.size (fun r e => by have := (HO8.out.lt r e).1; omega)
          refine ⟨hS9, ?_⟩
          have HO9 := Lib.hid (OwnU.at hown9 (by rw [List.length_append, List.length_take, List.length_drop]; omega))
          clear HO8 hown9
          simp only [Act.put, List.setIfInBounds_toArray, List.set_cons_zero, List.set_cons_succ]
          refine AnyH.take (i := 10) (v := ?_) rfl (by kernel_rfl) (fun _ _ _ h => h) rfl ?_ hS9 ?_
          rotate_left
          (intro w hS; go_simp; with_reducible rfl)
          simp only [Act.put, List.setIfInBounds_toArray, List.set_cons_zero, List.set_cons_succ]
          refine wpAnyH_done (by kernel_rfl) ?_ _
          have HB9 := Lib.hid (HB5.out.trans (Below.mono hS9 HB5.out.size))
          have ell : (ln.take k ++ ln.drop (k + 1)).length = k + (ln.length - (k + 1)) := by rw [List.length_append, List.length_take, List.length_drop]; omega
          have K1 := Lib.hid (known_any A (some ⟨g, 0, none⟩) c (k + 1) (by omega) (by omega) (by omega) _ r w9 f2 f3 (SliceG.after HL5.out hS9) (HN5.out.after hS9).gen)
          have K2 := Lib.hid (known_any A A9 c c9 (by omega) (by omega) (by rw [ell]; omega) _ r w9 f2 f3 (SliceG.after HL5.out hS9) HO9.out.gen)
          rw [f4] at K1
          rw [f5, ell] at K2
          clear ell hS9 HO9 hS8 hn8 hz8 hS7 hz7
          go_wp2_with fail
          refine K1.out.mono ?_
          rintro e _ ⟨rfl, rfl⟩
          go_wp2_with fail
          refine K2.out.mono ?_
          rintro e _ ⟨rfl, rfl⟩
          go_wp2_with fail
          refine (works_any _).mono ?_
          rintro e wA ⟨rfl, hb⟩
          have HBA := Lib.hid (HB9.out.trans (hb.mono HB9.out.size))
          clear hb
          go_wp2_with fail
          go_ret
          exact ⟨rfl, HBA.out⟩
        · have RD := Lib.hid fun W (h : SliceAt W (some ⟨g, 0, none⟩) ln) (hg : g < W.heap.size) => ru_part (m := ln.drop (k + 1)) (k := k + 1) h hg (fun j x hx => by rwa [List.getElem?_drop] at hx)
          refine Held.start 11 (Ext w5) (by kernel_rfl) rfl (Below.refl _ _).drew ?_
          (first | (refine Held.skip (i := 1) rfl (by kernel_rfl) (fun _ _ _ h => h) rfl ?_; (try simp only [Act.put, List.setIfInBounds_toArray, List.set_cons_zero, List.set_cons_succ])) | (refine Held.take (i := 1) (v := ?_) rfl (by kernel_rfl) (fun _ _ _ h => h) rfl ?_ ?_; rotate_left; (intro w hS; skip; go_simp; with_reducible rfl); (try simp only [Act.put, List.setIfInBounds_toArray, List.set_cons_zero, List.set_cons_succ])))
          (first | (refine Held.skip (i := 2) rfl (by kernel_rfl) (fun _ _ _ h => h) rfl ?_; (try simp only [Act.put, List.setIfInBounds_toArray, List.set_cons_zero, List.set_cons_succ])) | (refine Held.take (i := 2) (v := ?_) rfl (by kernel_rfl) (fun _ _ _ h => h) rfl ?_ ?_; rotate_left; (intro w hS; skip; go_simp; with_reducible rfl); (try simp only [Act.put, List.setIfInBounds_toArray, List.set_cons_zero, List.set_cons_succ])))
          (first | (refine Held.skip (i := 3) rfl (by kernel_rfl) (fun _ _ _ h => h) rfl ?_; (try simp only [Act.put, List.setIfInBounds_toArray, List.set_cons_zero, List.set_cons_succ])) | (refine Held.take (i := 3) (v := ?_) rfl (by kernel_rfl) (fun _ _ _ h => h) rfl ?_ ?_; rotate_left; (intro w hS; skip; go_simp; with_reducible rfl); (try simp only [Act.put, List.setIfInBounds_toArray, List.set_cons_zero, List.set_cons_succ])))
          (first | (refine Held.skip (i := 5) rfl (by kernel_rfl) (fun _ _ _ h => h) rfl ?_; (try simp only [Act.put, List.setIfInBounds_toArray, List.set_cons_zero, List.set_cons_succ])) | (refine Held.take (i := 5) (v := ?_) rfl (by kernel_rfl) (fun _ _ _ h => h) rfl ?_ ?_; rotate_left; (intro w hS; skip; go_simp; with_reducible rfl); (try simp only [Act.put, List.setIfInBounds_toArray, List.set_cons_zero, List.set_cons_succ])))
          (first | (refine Held.skip (i := 6) rfl (by kernel_rfl) (fun _ _ _ h => h) rfl ?_; (try simp only [Act.put, List.setIfInBounds_toArray, List.set_cons_zero, List.set_cons_succ])) | (refine Held.take (i := 6) (v := ?_) rfl (by kernel_rfl) (fun _ _ _ h => h) rfl ?_ ?_; rotate_left; (intro w hS; skip; go_simp; with_reducible rfl); (try simp only [Act.put, List.setIfInBounds_toArray, List.set_cons_zero, List.set_cons_succ])))
          (first | (refine Held.skip (i := 7) rfl (by kernel_rfl) (fun _ _ _ h => h) rfl ?_; (try simp only [Act.put, List.setIfInBounds_toArray, List.set_cons_zero, List.set_cons_succ])) | (refine Held.take (i := 7) (v := ?_) rfl (by kernel_rfl) (fun _ _ _ h => h) rfl ?_ ?_; rotate_left; (intro w hS; skip; go_simp; with_reducible rfl); (try simp only [Act.put, List.setIfInBounds_toArray, List.set_cons_zero, List.set_cons_succ])))
          (first | (refine Held.skip (i := 8) rfl (by kernel_rfl) (fun _ _ _ h => h) rfl ?_; (try simp only [Act.put, List.setIfInBounds_toArray, List.set_cons_zero, List.set_cons_succ])) | (refine Held.take (i := 8) (v := ?_) rfl (by kernel_rfl) (fun _ _ _ h => h) rfl ?_ ?_; rotate_left; (intro w hS; skip; go_simp; with_reducible rfl); (try simp only [Act.put, List.setIfInBounds_toArray, List.set_cons_zero, List.set_cons_succ])))
          intro w6 hS6
          have hb6 := hS6.size
          refine AnyH.make (i := 0) rfl (by kernel_rfl) rfl (.slice (some ⟨w6.heap.size, 0, none⟩) 0 0) (w6.alloc (.cells #[] 22)) (by go_simp) (hS6.alloc hb6 _) ?_
          have hS7 : Ext w5 (w6.alloc (.cells #[] 22)) := hS6.alloc hb6 _
          have HO7 := Lib.hid (own_made w6)
          have hz7 : w6.heap.size ≤ (w6.alloc (.cells #[] 22)).heap.size := by simp
          generalize w6.heap.size = b6 at *
          generalize w6.alloc (.cells #[] 22) = w7 at *
          have hn7 := HN5.out.after hS7
          simp only [Act.put, List.setIfInBounds_toArray, List.set_cons_zero, List.set_cons_succ]
          refine AnyH.append (i := 4) rfl (by kernel_rfl) rfl (.tmp 66) (.tmp 69) rfl b6 (.slice (some ⟨b6, 0, none⟩) 0 0) [] rfl _ k _ (ln.take k) rfl (by rw [List.length_take]; omega) HO7.out (RT.out _ hn7 (GL.out _ hn7)) hz7 (by simp; omega) k (by rw [List.length_take]; simp; omega) (ln.take k) rfl ?_
          intro A8 c8 w8 hown8 hg8
          have hS8 : Ext w5 w8 := hS7.grown hg8 hS7.size (fun r e => by cases e; exact hb6)
          have hn8 := HN5.out.after hS8
          have hz8 : b6 ≤ w8.heap.size := by have := hg8.size; omega
          refine ⟨hS8, ?_⟩
          have HO8 := Lib.hid hown8
          clear HO7 hown8 hn7
          simp only [Act.put, List.setIfInBounds_toArray, List.set_cons_zero, List.set_cons_succ]
          refine AnyH.append (i := 9) rfl (by kernel_rfl) rfl (.tmp 70) (.tmp 74) rfl b6 (.slice A8 k c8) (ln.take k) rfl _ _ _ (ln.drop (k + 1)) rfl (by rw [List.length_drop]) HO8.out (RD.out _ hn8 (GL.out _ hn8)) hz8 (by rw [List.length_take, List.length_drop]; omega) (k + (ln.length - (k + 1))) (by rw [List.length_take, List.length_drop]; omega) (ln.take k ++ ln.drop (k + 1)) rfl ?_
          intro A9 c9 w9 hown9 hg9
          have hS9 : Ext w5 w9 := hS8.grown hg9 hS8.size (fun r e => by have := (HO8.out.lt r e).1; omega)
          refine ⟨hS9, ?_⟩
          have HO9 := Lib.hid (OwnU.at hown9 (by rw [List.length_append, List.length_take, List.length_drop]; omega))
          clear HO8 hown9
          simp only [Act.put, List.setIfInBounds_toArray, List.set_cons_zero, List.set_cons_succ]
          refine AnyH.take (i := 10) (v := ?_) rfl (by kernel_rfl) (fun _ _ _ h => h) rfl ?_ hS9 ?_
          rotate_left
          (intro w hS; go_simp; with_reducible rfl)
          simp only [Act.put, List.setIfInBounds_toArray, List.set_cons_zero, List.set_cons_succ]
          refine wpAnyH_done (by kernel_rfl) ?_ _
          have HB9 := Lib.hid (HB5.out.trans (Below.mono hS9 HB5.out.size))
          have ell : (ln.take k ++ ln.drop (k + 1)).length = k + (ln.length - (k + 1)) := by rw [List.length_append, List.length_take, List.length_drop]; omega
          have K1 := Lib.hid (known_any A (some ⟨g, 0, none⟩) c c2 (by omega) (by omega) (by omega) _ r w9 f2 f3 (SliceG.after HL5.out hS9) (HN5.out.after hS9).gen)
          have K2 := Lib.hid (known_any A A9 c c9 (by omega) (by omega) (by rw [ell]; omega) _ r w9 f2 f3 (SliceG.after HL5.out hS9) HO9.out.gen)
          rw [f4] at K1
          rw [f5, ell] at K2
          clear ell hS9 HO9 hS8 hn8 hz8 hS7 hz7
          go_wp2_with fail
          refine K1.out.mono ?_
          rintro e _ ⟨rfl, rfl⟩
          go_wp2_with fail
          refine K2.out.mono ?_
          rintro e _ ⟨rfl, rfl⟩
          go_wp2_with fail
          refine (works_any _).mono ?_
          rintro e wA ⟨rfl, hb⟩
          have HBA := Lib.hid (HB9.out.trans (hb.mono HB9.out.size))
          clear hb
          go_wp2_with fail
          go_ret
          exact ⟨rfl, HBA.out⟩
  · refine (need_no n l A c w hnu (by omega) HU.out HS1.out hv).mono ?_
    rintro e w2 ⟨rfl, hb2⟩
    have HB2 := Lib.hid hb2
    clear hb2
    by_cases h200 : 200 ≤ n
    · have h2 : (200 : Int) ≤ n := by omega
      go_wp2_with fail
      refine (works_any _).mono ?_
      rintro e w9 ⟨rfl, hb⟩
      have HB9 := Lib.hid (HB2.out.trans (hb.mono HB2.out.size))
      clear hb
      go_wp2_with fail
      go_ret
      exact ⟨rfl, HB9.out⟩
    · have h2 : ¬ (200 : Int) ≤ n := by omega
      go_wp2_with fail
      refine (works_any _).mono ?_
      rintro e w9 ⟨rfl, hb⟩
      have HB9 := Lib.hid (HB2.out.trans (hb.mono HB2.out.size))
      clear hb
      go_wp2_with fail
      go_ret
      exact ⟨rfl, HB9.out⟩

set_option maxRecDepth 100000 in
theorem law_NeedLeast {H : Type} {enc : TypeId × Value → H} (W : World) (base : Nat) (v0 v1 v2 : Value) (d0 d1 d2 : DataW H) (p0 p1 p2 : List MemPlace)
    (h0 : DataW.Trod enc Try.prog W 0 (fun _ => true) true 22 v0 d0 p0) (h1 : DataW.Trod enc Try.prog W 0 (fun _ => true) true 23 v1 d1 p1) (h2 : DataW.Trod enc Try.prog W 0 (fun _ => true) true 5 v2 d2 p2)
    (o0 : Value.okWide Try.prog W .any base 22 v0) (o1 : Value.okWide Try.prog W .any base 23 v1) (o2 : Value.okWide Try.prog W .any base 5 v2) :
    Calls Try.prog 3 #[v0, v1, v2] W fun e w' => e = .returned (.bool true) ∧ Below W.heap.size W w' := by
  obtain ⟨a, rfl, wa⟩ := in_int Try.underlying22 h0 o0
  obtain ⟨n, rfl, hn⟩ := u64_nat wa
  obtain ⟨A, c, l, rfl, hs, hl, hc, hu⟩ := in_nums h1 o1
  obtain ⟨b, rfl, wb⟩ := in_int Try.underlying5 h2 o2
  obtain ⟨i, rfl⟩ : ∃ i : Nat, b = i := ⟨b.toNat, by have := wf_u8 wb; omega⟩
  exact least_walk n A c l i W hn hl hc hs hu (by have := wf_u8 wb; omega)
end Go.Proofs.Ytapdhmaeglafjaa
