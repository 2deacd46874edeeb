/- The iterator of positions upwards. -/
import Derived.Test.YtnokhajjcjfbpaaRange
import Derived.Test.YtnokhajjcjfbpaaPosWl
import Derived.Test.YtnokhajjcjfbpaaPosT
namespace Go.Proofs.Ytnokhajjcjfbpaa
open Go.RowKit Go.Shelf
attribute [local go_sem] Oper.semAt_some

theorem grownBy_drewN (W : World) (n : Nat) (row : Option Nat) : W.grownBy (W.drewN n) row := ⟨rfl, rfl, rfl, Nat.le_refl _, fun _ _ _ => rfl⟩

def cellNat (W : World) (b : Nat) : Nat := match W.cell? ⟨b, 0, none⟩ with
  | some (.int _ x) => x.toNat
  | _ => 0
theorem cellNat_blk {W : World} {b x : Nat} {t : TypeId} {k : IntKind} (h : IsBlk W b t #[.int k x]) : cellNat W b = x := by
  simp [cellNat, h.cell 0]

/-- Blocks b and b + 1 lie as they lay. -/
def Kp2 (b : Nat) (W W' : World) : Prop := ∀ r, r = b ∨ r = b + 1 → W'.heap[r]? = W.heap[r]?
theorem Kp2.refl (b : Nat) (W : World) : Kp2 b W W := fun _ _ => rfl
theorem Kp2.trans {b : Nat} {A B C : World} (h : Kp2 b A B) (k : Kp2 b B C) : Kp2 b A C := fun r hr => (k r hr).trans (h r hr)
theorem Kp2.put {b : Nat} {w : World} (hb : b + 1 < w.heap.size) (W : World) (l : Nat) (o o' : Obj) (hl : w.heap.size ≤ l) (_ : W.heap[l]? = some o) (_ : o.isCells = false) (_ : o.isWalk = false) : Kp2 b W (W.putObj l o') :=
  fun r hr => World.putObj_heap_other (by omega)

theorem up_any (p R : Int) (w : World) : Calls Try.prog 61 #[.int .u64 p, .int .i64 R] w fun e w' =>
    e = .returned (.func (.func 70) #[] #[.pointer (some ⟨w.heap.size, 0, none⟩), .pointer (some ⟨w.heap.size + 1, 0, none⟩)]) ∧ w' = (w.alloc (.cells #[.int .u64 p] 22)).alloc (.cells #[.int .i64 R] 3) := by
  go_enter Try.func61, Try.ntmps61
  go_wp2_with fail
  go_ret
  exact ⟨by simp, rfl⟩

set_option maxHeartbeats 1000000 in
theorem up_list (p R n b : Nat) (w : World) (hn : 1 ≤ n) (hR : R ≤ 63) (h : p + 1 < 2 ^ (R + 1)) (hb : IsBlk w b 22 #[.int .u64 p]) (hb2 : IsBlk w (b + 1) 3 #[.int .i64 R]) :
    SeqList Fence.wide n Try.prog 70 #[.pointer (some ⟨b, 0, none⟩), .pointer (some ⟨b + 1, 0, none⟩)] (fun x : Nat => #[.int .u64 x]) (fun r => r = b) (Kp2 b) (ups p R (R - rowOf p R + 1)) w := by
  intro l J Jx W hW hJ hJx hY h0
  have hr0 := (rowOf_spec h).1
  refine callsIn_of_wp Try.func70 rfl trivial ?_ rfl
  have hB1 := hb.below hW hb.lt
  have hB2 := hb2.below hW hb2.lt
  simp only [Try.ntmps70, List.size_toArray, List.length_cons, List.length_nil, Nat.reduceAdd, Nat.reduceSub, Array.replicate_succ, Array.replicate_zero, List.push_toArray, List.append_toArray, List.nil_append, List.cons_append]
  clear hb hb2 hW
  gi_wp2
  gi_loopw [4] (fun v wr => (∃ k, rowOf p R + k ≤ R ∧ v = .bool true ∧ J k wr ∧ IsBlk wr b 22 #[.int .u64 (anc p R k)] ∧ IsBlk wr (b + 1) 3 #[.int .i64 R]) ∨ (v = .bool false ∧ J (R - rowOf p R + 1) wr))
    (fun v wr => match v with | .bool true => 65 - rowOf (cellNat wr b) R | _ => 0)
  case atStart => exact .inl ⟨0, by omega, rfl, h0, hB1, hB2⟩
  case round =>
    rcases hrel with ⟨k, hk, rfl, hJk, h1, h2⟩ | ⟨rfl, hJe⟩
    · have hx : (ups p R (R - rowOf p R + 1))[k]? = some (anc p R k) := by
        unfold ups
        rw [List.getElem?_map, List.getElem?_range (by omega)]
        rfl
      obtain ⟨fn, tmps, assign, body, hy, hR'⟩ := hY k _ wr hx hJk

      have c1 := h1.cell 0
      have f1 := h1.free 0
      simp at c1
      have hF : Fence.wide.fn 39 := trivial
      gi_wp2
      refine hR'.mono ?_
      rintro e W3 (⟨rfl, hJ3, hk3⟩ | ⟨rfl, hJx3⟩)
      · have g1 : IsBlk W3 b 22 #[.int .u64 (anc p R k)] := (hk3 b (.inl rfl)).trans h1
        have g2 : IsBlk W3 (b + 1) 3 #[.int .i64 R] := (hk3 (b + 1) (.inr rfl)).trans h2
        have c3 := g1.cell 0
        have c4 := g2.cell 0
        have f3 := g1.free 0
        simp at c3 c4
        by_cases hlt : rowOf p R + k < R
        · have hm := anc_more h hlt
          gi_wp2_with (gi_at_call 39; refine (callsIn_wide.2 (parent_yes (anc p R k) R _ hR hm)).mono ?_; rintro e w' ⟨rfl, d, rfl⟩)
          have q1 : IsBlk (W3.setCell ⟨b, 0, none⟩ (.int .u64 (parOf (anc p R k) R : Nat))) b 22 #[.int .u64 (anc p R (k + 1))] := g1.put 0 _
          refine ⟨.inl ⟨k + 1, by omega, rfl, hJ _ _ _ _ hJ3 (grownBy_setCell' W3 b _) (by rintro r e; cases e; rfl), q1, g2.far (by simp) _⟩, ?_⟩
          show 65 - rowOf (cellNat _ b) R < 65 - rowOf (cellNat wr b) R
          rw [cellNat_blk q1, cellNat_blk h1, (anc_spec h (k + 1) (by omega)).2.1, (anc_spec h k (by omega)).2.1]
          omega
        · have hm : ¬ (PosOk (anc p R k) R ∧ anc p R k + 2 < 2 ^ ((R : Int).toNat + 1)) := by
            have := anc_top h (k := k) (by omega)
            rintro ⟨_, h2⟩
            rw [Int.toNat_natCast] at h2
            omega
          have hp := p_u64 hR (anc_spec h k hk).1
          gi_wp2_with (gi_at_call 39; refine (callsIn_wide.2 (parent_no (anc p R k) R _ (by omega) hm)).mono ?_; rintro e w' ⟨rfl, d, rfl⟩)
          refine ⟨.inr ⟨rfl, ?_⟩, ?_⟩
          · rw [show R - rowOf p R + 1 = k + 1 from by omega]
            exact hJ _ _ _ _ hJ3 (grownBy_setCell' W3 b _) (by rintro r e; cases e; rfl)
          · show 0 < 65 - rowOf (cellNat wr b) R
            rw [cellNat_blk h1, (anc_spec h k (by omega)).2.1]
            omega
      · gi_wp2
        go_end0
        exact ⟨⟨_, rfl⟩, .inr ⟨k + 1, by rw [ups_len]; omega, hJx3⟩⟩
    · gi_wp2
      refine ⟨fun _ h => (by cases h), ?_⟩
      gi_wp2
      go_end0
      exact ⟨⟨_, rfl⟩, .inl (by rw [ups_len]; exact hJe)⟩
end Go.Proofs.Ytnokhajjcjfbpaa
