/- Hf, Hg, Hh, Hi in one (merge.py): a claim holds at most 60 files. -/
import Derived.Test.YtnokhajjcjfbpaaJa
/- Gaps, and what is known. -/
namespace Go.Proofs.Ytnokhajjcjfbpaa
open Go.RowKit Go.Shelf

/-- The i-th gap lies within m, behind the one ahead of it. -/
def GapOne (gs : List Int) (m i : Nat) : Prop := 0 ≤ gs.getD i 0 ∧ gs.getD i 0 < m ∧ (0 < i → gs.getD (i - 1) 0 < gs.getD i 0)
instance (gs : List Int) (m i : Nat) : Decidable (GapOne gs m i) := by unfold GapOne; infer_instance
def Gaps (gs : List Int) (m : Nat) : Prop := ∀ i, i < gs.length → GapOne gs m i
instance (gs : List Int) (m : Nat) : Decidable (Gaps gs m) := by unfold Gaps; infer_instance

set_option maxRecDepth 100000 in
set_option maxHeartbeats 4000000 in
theorem gapped_any (gs : List Int) (A : Option Addr) (c m h : Nat) (w : World) (hlen : gs.length ≤ 1000000) (_hm : m ≤ 1000000) (hh : h ≤ 1000000) (hs : IntG w A gs) :
    Calls Try.prog 19 #[.slice A gs.length c, .int .i64 m, .int .i64 h] w fun e w' => e = .returned (.bool (decide (Gaps gs m ∧ gs.length + h = m))) ∧ w = w' := by
  have E := Lib.hid (show IntKind.i64.wrap ((gs.length : Int) + h) = ((gs.length + h : Nat) : Int) from by rw [IntWalk.i64_in _ (by omega)]; omega)
  generalize hV : decide (Gaps gs m ∧ gs.length + h = m) = V
  have HV := Lib.hid hV
  clear hV
  go_enter Try.func19, Try.ntmps19
  go_wp2_with fail
  go_loopw [7, 8, 11] (fun _ _ v wr => ∃ k : Nat, k ≤ gs.length ∧ v = .int .i64 k ∧ (∀ i, i < k → GapOne gs m i) ∧ wr = w) (fun _ _ v _ => gs.length - (intOf v).toNat)
  case atStart => exact ⟨0, by omega, rfl, fun i hi => by omega, rfl⟩
  case round =>
    obtain ⟨k, hk, rfl, hgo, rfl⟩ := hrel
    have HGO := Lib.hid hgo
    clear hgo
    by_cases hlt : k < gs.length
    · obtain ⟨g, rfl, hg, hc⟩ := hs k hlt
      have hx : gs[k]? = some gs[k] := List.getElem?_eq_getElem hlt
      rw [hx] at hc
      simp only [Option.map_some] at hc
      have HD := Lib.hid (show gs.getD k 0 = gs[k] from by simp [List.getD, hx])
      have k1 : (k : Int) < gs.length := by omega
      have HS := Lib.hid hs
      clear hs hx
      generalize gs[k] = z at *
      have HNO := Lib.hid fun (hn : ¬ GapOne gs m k) => (show V = false from by rw [← HV.out]; exact decide_eq_false (fun hgg => hn (hgg.1 k hlt)))
      by_cases h1 : z < 0
      · have HF := Lib.hid (HNO.out fun hgg => by have := hgg.1; rw [HD.out] at this; omega)
        go_wp2_with fail
        go_ret
        exact ⟨by rw [HF.out]; rfl, rfl⟩
      by_cases h2 : (m : Int) ≤ z
      · have HF := Lib.hid (HNO.out fun hgg => by have := hgg.2.1; rw [HD.out] at this; omega)
        go_wp2_with fail
        go_ret
        exact ⟨by rw [HF.out]; rfl, rfl⟩
      rcases Nat.eq_zero_or_pos k with h0 | h0
      · have hk0 : ¬ 0 < k := by omega
        have HG := Lib.hid (show ∀ i, i < k + 1 → GapOne gs m i from fun i hi => by
          obtain rfl : i = k := by omega
          exact ⟨by rw [HD.out]; omega, by rw [HD.out]; omega, fun h => by omega⟩)
        clear h0
        go_wp2_with fail
        exact ⟨⟨k + 1, by omega, by go_num, HG.out, trivial⟩, by simp [intOf]; omega⟩
      obtain ⟨j, hj⟩ : ∃ j, k = j + 1 := ⟨k - 1, by omega⟩
      have hj1 : k - 1 = j := by omega
      · obtain ⟨g', e, hg2, hc2⟩ := HS.out j (by omega)
        have hx : gs[j]? = some (gs[j]'(by omega)) := List.getElem?_eq_getElem (by omega)
        rw [hx] at hc2
        simp only [Option.map_some] at hc2
        have HD2 := Lib.hid (show gs.getD j 0 = gs[j]'(by omega) from by simp [List.getD, hx])
        clear hx
        generalize (gs[j]'(by omega)) = y at *
        obtain rfl : g = g' := by injection e
        have e1 : IntKind.i64.wrap ((k : Int) - 1) = (j : Int) := by rw [IntWalk.i64_in _ (by omega)]; omega
        have j1 : (j : Int) < gs.length := by omega
        have HJ := Lib.hid hj1
        clear hj1 hj
        by_cases h3 : z ≤ y
        · have HF := Lib.hid (HNO.out fun hgg => by have := hgg.2.2 h0; rw [HD.out, HJ.out, HD2.out] at this; omega)
          go_wp2_with fail
          go_ret
          exact ⟨by rw [HF.out]; rfl, rfl⟩
        · have HG := Lib.hid (show ∀ i, i < k + 1 → GapOne gs m i from fun i hi => by
            rcases Nat.lt_or_ge i k with h | h
            · exact HGO.out i h
            · obtain rfl : i = k := by omega
              exact ⟨by rw [HD.out]; omega, by rw [HD.out]; omega, fun _ => by rw [HD.out, HJ.out, HD2.out]; omega⟩)
          go_wp2_with fail
          exact ⟨⟨k + 1, by omega, by go_num, HG.out, trivial⟩, by simp [intOf]; omega⟩
    · obtain rfl : k = gs.length := by omega
      have HF := Lib.hid (show V = (((gs.length + h : Nat) : Int) == m) from by
        rw [← HV.out, Bool.eq_iff_iff, decide_eq_true_iff, beq_iff_eq]
        constructor
        · rintro ⟨_, h2⟩
          omega
        · intro h2
          exact ⟨HGO.out, by omega⟩)
      have EE := E.out
      go_wp2_with fail
      go_ret
      exact ⟨by rw [HF.out]; rfl, rfl⟩
end Go.Proofs.Ytnokhajjcjfbpaa
/- What is known: a position and what stands there. -/
namespace Go.Proofs.Ytnokhajjcjfbpaa
open Go.RowKit Go.Shelf

def kc (x : Nat × List Int) : List Value := .int .u64 x.1 :: hc x.2
/-- A slice of what is known. -/
def KnownG (W : World) (A : Option Addr) (kn : List (Nat × List Int)) : Prop := RowG W A 33 (kn.map kc) ∧ ∀ x ∈ kn, x.2.length = 32
theorem KnownG.after {W W' : World} {A : Option Addr} {kn : List (Nat × List Int)} (h : KnownG W A kn) (hb : Below W.heap.size W W') : KnownG W' A kn := ⟨h.1.after hb, h.2⟩
theorem KnownG.at {W : World} {A : Option Addr} {kn : List (Nat × List Int)} (h : KnownG W A kn) {k : Nat} {x : Nat × List Int} (hk : kn[k]? = some x) : ∃ b o, A = some ⟨b, o, none⟩ ∧ b < W.heap.size ∧ W.cell? ⟨b, o + k * 33, none⟩ = some (.int .u64 x.1) ∧ W.rangeAt b (o + k * 33 + 1) (hc x.2) ∧ x.2.length = 32 := by
  obtain ⟨b, o, e, h1, h2⟩ := h.1 k (kc x) (by rw [List.getElem?_map, hk]; rfl)
  refine ⟨b, o, e, h1, h2 0 _ rfl, fun j v hv => ?_, h.2 x (List.mem_of_getElem? hk)⟩
  rw [show o + k * 33 + 1 + j = o + k * 33 + (j + 1) by omega]
  exact h2 (j + 1) v hv
/-- What stands at a position, if it is known. -/
def look (kn : List (Nat × List Int)) (p : Nat) : Option (List Int) := (kn.find? fun x => x.1 == p).map (·.2)
theorem look_hit {kn : List (Nat × List Int)} {k p : Nat} {x : Nat × List Int} (hx : kn[k]? = some x) (hp : x.1 = p) (hno : ∀ y ∈ kn.take k, y.1 ≠ p) : look kn p = some x.2 := by
  have hlt := (List.getElem?_eq_some_iff.1 hx).1
  have e : kn = kn.take k ++ x :: kn.drop (k + 1) := by
    have := List.drop_eq_getElem_cons hlt
    rw [(List.getElem?_eq_some_iff.1 hx).2] at this
    rw [← this, List.take_append_drop]
  unfold look
  rw [e, List.find?_append, List.find?_eq_none.2 (fun y hy => by simpa using hno y hy), Option.none_or, List.find?_cons_of_pos (by simpa using hp)]
  rfl
theorem look_miss {kn : List (Nat × List Int)} {p : Nat} (hno : ∀ y ∈ kn, y.1 ≠ p) : look kn p = none := by
  unfold look
  rw [List.find?_eq_none.2 (fun y hy => by simpa using hno y hy)]
  rfl

set_option maxRecDepth 100000 in
set_option maxHeartbeats 4000000 in
theorem find_any (kn : List (Nat × List Int)) (A : Option Addr) (c p : Nat) (w : World) (hlen : kn.length ≤ 1000000) (hs : KnownG w A kn) :
    Calls Try.prog 20 #[.slice A kn.length c, .int .u64 p] w fun e w' => ((∃ (i : Nat) (x : Nat × List Int), e = .returned (.int .i64 i) ∧ kn[i]? = some x ∧ look kn p = some x.2) ∨ (e = .returned (.int .i64 (-1)) ∧ look kn p = none)) ∧ w = w' := by
  go_enter Try.func20, Try.ntmps20
  go_wp2_with fail
  go_loopw [5] (fun v wr => ∃ k : Nat, k ≤ kn.length ∧ v = .int .i64 k ∧ (∀ y ∈ kn.take k, y.1 ≠ p) ∧ wr = w) (fun v _ => kn.length - (intOf v).toNat)
  case atStart => exact ⟨0, by omega, rfl, by simp, rfl⟩
  case round =>
    obtain ⟨k, hk, rfl, hno, rfl⟩ := hrel
    by_cases hlt : k < kn.length
    · have hx : kn[k]? = some kn[k] := List.getElem?_eq_getElem hlt
      obtain ⟨b, o, rfl, hb, hc0, _, _⟩ := hs.at hx
      have k1 : (k : Int) < kn.length := by omega
      have HX := Lib.hid hx
      have HN := Lib.hid hno
      clear hs hx hno
      generalize kn[k] = x at *
      by_cases he : x.1 = p
      · have HL := Lib.hid (look_hit HX.out he HN.out)
        rw [he] at hc0
        go_wp2_with fail
        go_ret
        exact ⟨.inl ⟨k, x, rfl, HX.out, HL.out⟩, rfl⟩
      · have hne : ((x.1 : Int) == p) = false := by rw [beq_eq_false_iff_ne]; omega
        have NO := Lib.hid (show ∀ y ∈ kn.take (k + 1), y.1 ≠ p from by
          rw [List.take_add_one, HX.out]
          intro y hy
          rcases List.mem_append.1 hy with h | h
          · exact HN.out y h
          · simp at h
            rw [h]
            exact he)
        clear he
        go_wp2_with fail
        exact ⟨⟨k + 1, by omega, by go_num, NO.out, trivial⟩, by simp [intOf]; omega⟩
    · obtain rfl : k = kn.length := by omega
      rw [List.take_length] at hno
      have HL := Lib.hid (look_miss hno)
      clear hno
      go_wp2_with fail
      go_ret
      exact ⟨.inr ⟨rfl, HL.out⟩, rfl⟩

theorem blk_setCells {g : Nat} {t : TypeId} : ∀ (vs : List Value) (o : Nat) (w : World) (c : Array Value), IsBlk w g t c → IsBlk (w.setCells g o vs) g t ((vs.zipIdx o).foldl (fun cs x => cs.setIfInBounds x.2 x.1) c)
  | [], _, _, _, h => h
  | v :: vs, o, w, c, h => by
    rw [List.zipIdx_cons, List.foldl_cons]
    exact blk_setCells vs (o + 1) _ _ (h.put o v)
theorem below_setCells {B b : Nat} {w0 : World} (hb : B ≤ b) : ∀ (vs : List Value) (o : Nat) {w : World}, Below B w0 w → Below B w0 (w.setCells b o vs)
  | [], _, _, h => h
  | v :: vs, o, _, h => below_setCells hb vs (o + 1) (h.setCell hb v)
theorem blk_there {w : World} {g n : Nat} {t : TypeId} {cs : Array Value} (h : IsBlk w g t cs) (hs : cs.size = n) : w.there g 0 n := fun j hj => by
  rw [Nat.zero_add, h.cell, Array.getElem?_eq_getElem (by omega)]
  exact ⟨rfl, h.free j⟩
/-- A store of a whole hash into a block of its own. -/
theorem wpList_store_hash {ops : Array Oper} {rest : List Oper} {op : Oper} {a : Act} {w : World} {Q : Exit → Act → World → Prop} (hgd : op.guard = none) (x y : Operand) (ho : op.op = .store 37 x y)
    (g : Nat) (c : Array Value) (z : List Int) (hx : a.eval x = .pointer (some ⟨g, 0, none⟩)) (hy : a.eval y = .agg (hc z).toArray) (hz : z.length = 32) (hb : IsBlk w g 37 c) (hc0 : c.size = 32)
    (h : ∀ wz, IsBlk wz g 37 (hc z).toArray → Below g w wz → wpList Try.prog ops Q rest (a.put op.dst undef) wz) : wpList Try.prog ops Q (op :: rest) a w := by
  have hl : (hc z).length = 32 := by rw [hc_len, hz]
  refine wpList_store_mid hgd 37 x y ho g 0 (hc z).toArray hx hy (blk_there hb (by simpa using hc0.trans hl.symm)) (by rw [hash_size, List.size_toArray, hl]) (all_oneCell_toArray (hc_one z)) ?_
  refine h _ ?_ (below_setCells (Nat.le_refl _) _ _ (Below.refl _ _))
  have := blk_setCells (hc z) 0 w c hb
  rw [fill_all _ _ (by omega)] at this
  simpa using this
theorem blk_hash {w : World} {g : Nat} {z : List Int} (h : IsBlk w g 37 (hc z).toArray) (hz : z.length = 32) : (loadVar 37 ⟨g, 0, none⟩).run Try.prog w = .ok (.agg (hc z).toArray) w :=
  hash_var w g 0 z (fun j v hv => by rw [Nat.zero_add, h.cell]; simpa using hv) hz
def zero32 : List Int := List.replicate 32 0

set_option maxRecDepth 100000 in
set_option maxHeartbeats 4000000 in
theorem at_any (kn : List (Nat × List Int)) (A : Option Addr) (c p : Nat) (w : World) (hlen : kn.length ≤ 1000000) (hs : KnownG w A kn) :
    Calls Try.prog 10 #[.agg #[.slice A kn.length c], .int .u64 p] w fun e w' => ((∃ x : List Int, x.length = 32 ∧ e = .returned (.tuple #[.agg (hc x).toArray, .bool true]) ∧ look kn p = some x) ∨ ((∃ x : List Int, x.length = 32 ∧ e = .returned (.tuple #[.agg (hc x).toArray, .bool false])) ∧ look kn p = none)) ∧ Below w.heap.size w w' := by
  go_enter Try.func10, Try.ntmps10
  go_wp2_with fail
  go_loopw [6] (fun v wr => ∃ k : Nat, k ≤ kn.length ∧ v = .int .i64 k ∧ (∀ y ∈ kn.take k, y.1 ≠ p) ∧ (IsBlk wr w.heap.size 35 #[.slice A kn.length c] ∧ ∃ z : Array Value, z.size = 32 ∧ IsBlk wr (w.heap.size + 1) 37 z) ∧ Below w.heap.size w wr) (fun v _ => kn.length - (intOf v).toNat)
  case atStart => exact ⟨0, by omega, rfl, by simp, ⟨by repeat' (first | with_reducible assumption | with_reducible refine IsBlk.drewN ?_ _ | with_reducible refine IsBlk.drew ?_ | with_reducible refine IsBlk.newAt _ _ ?_ | with_reducible refine IsBlk.alloc ?_ _ | with_reducible refine IsBlk.far ?_ ?_ _ | (simp; done) | (simp; omega)), _, rfl, by repeat' (first | with_reducible assumption | with_reducible refine IsBlk.drewN ?_ _ | with_reducible refine IsBlk.drew ?_ | with_reducible refine IsBlk.newAt _ _ ?_ | with_reducible refine IsBlk.alloc ?_ _ | with_reducible refine IsBlk.far ?_ ?_ _ | (simp; done) | (simp; omega))⟩, by repeat' (first | exact Below.refl _ _ | refine bel_drewN ?_ _ | refine Below.drew ?_ | refine Below.alloc ?_ ?_ _ | refine Below.setCell ?_ ?_ _ | exact Nat.le_refl _ | (simp; done) | (simp; omega) | assumption)⟩
  case round =>
    obtain ⟨k, hk, rfl, hno, ⟨hb1, zc, hzc, hb2⟩, hbel⟩ := hrel
    have c0 := hb1.cell 0
    simp at c0
    have l1 := hb1.lt
    have HB1 := Lib.hid hb1
    have HB2 := Lib.hid hb2
    have HBR := Lib.hid hbel
    have HZC := Lib.hid hzc
    clear hb1 hb2 hbel hzc
    by_cases hlt : k < kn.length
    · have hx : kn[k]? = some kn[k] := List.getElem?_eq_getElem hlt
      obtain ⟨b, o, rfl, hb, hc0, hr, h32⟩ := (hs.after HBR.out).at hx
      have k1 : (k : Int) < kn.length := by omega
      have HX := Lib.hid hx
      have HN := Lib.hid hno
      have HR := Lib.hid hr
      have H32 := Lib.hid h32
      clear hs hx hno hr h32
      generalize kn[k] = x at *
      by_cases he : x.1 = p
      · have HL := Lib.hid (look_hit HX.out he HN.out)
        rw [he] at hc0
        go_wp2_with (first
          | refine wpList_load_mid rfl 37 (.tmp 26) rfl b (o + k * 33 + 1) rfl (hc x.2) _ HR.out Try.underlying37 rfl (by rw [hash_size, hc_len, H32.out]) ?_
          | (refine wpList_store_hash rfl (.tmp 4) (.tmp 27) rfl (w.heap.size + 1) zc x.2 rfl rfl H32.out HB2.out HZC.out ?_; intro wz hz1 hz2; have HZ1 := Lib.hid hz1; have HZ2 := Lib.hid hz2; clear hz1 hz2))
        have hlv := blk_hash HZ1.out H32.out
        exact bodyPost_ret (v := .tuple #[.agg (hc x.2).toArray, .bool true]) (by simp [results, Try.results10, asAddr, hlv]) rfl ⟨.inl ⟨x.2, H32.out, rfl, HL.out⟩, HBR.out.trans (HZ2.out.mono (by omega))⟩
      · have hne : ((x.1 : Int) == p) = false := by rw [beq_eq_false_iff_ne]; omega
        have NO := Lib.hid (show ∀ y ∈ kn.take (k + 1), y.1 ≠ p from by
          rw [List.take_add_one, HX.out]
          intro y hy
          rcases List.mem_append.1 hy with h | h
          · exact HN.out y h
          · simp at h
            rw [h]
            exact he)
        clear he
        go_wp2_with fail
        exact ⟨⟨k + 1, by omega, by go_num, NO.out, ⟨HB1.out, zc, HZC.out, HB2.out⟩, HBR.out⟩, by simp [intOf]; omega⟩
    · obtain rfl : k = kn.length := by omega
      rw [List.take_length] at hno
      have HL := Lib.hid (look_miss hno)
      clear hno
      go_wp2_with (refine wpList_store_hash rfl (.tmp 4) (.tmp 28) rfl (w.heap.size + 1) zc zero32 rfl rfl rfl HB2.out HZC.out ?_; intro wz hz1 hz2; have HZ1 := Lib.hid hz1; have HZ2 := Lib.hid hz2; clear hz1 hz2)
      have hlv := blk_hash HZ1.out rfl
      exact bodyPost_ret (v := .tuple #[.agg (hc zero32).toArray, .bool false]) (by simp [results, Try.results10, asAddr, hlv]) rfl ⟨.inr ⟨⟨zero32, rfl, rfl⟩, HL.out⟩, HBR.out.trans (HZ2.out.mono (by omega))⟩
end Go.Proofs.Ytnokhajjcjfbpaa
/- The same proof, the same part? -/
namespace Go.Proofs.Ytnokhajjcjfbpaa
open Go.RowKit Go.Shelf

set_option maxRecDepth 100000 in
set_option maxHeartbeats 4000000 in
theorem same_any (ta tb : List Nat) (ha hb : List (List Int)) (A B C D : Option Addr) (c1 c2 c3 c4 : Nat) (w : World) (l1 : ta.length ≤ 1000000) (l2 : tb.length ≤ 1000000) (l3 : ha.length ≤ 1000000) (sa : SliceG w A ta) (sb : SliceG w B tb) (sc : HashG w C ha) (sd : HashG w D hb) :
    Calls Try.prog 13 #[.agg #[.slice A ta.length c1, .slice C ha.length c3], .agg #[.slice B tb.length c2, .slice D hb.length c4]] w (NRet (.bool (decide (ta = tb ∧ ha = hb))) w) := by
  have SM := Lib.hid fun w h1 h2 => same_list ta tb A B c1 c2 w l1 l2 h1 h2
  have HM := Lib.hid fun w h1 h2 => hashes_any ha hb C D c3 c4 w l3 h1 h2
  have HA := Lib.hid sa
  have HB := Lib.hid sb
  have HC := Lib.hid sc
  have HD := Lib.hid sd
  clear sa sb sc sd
  go_enter Try.func13, Try.ntmps13
  go_wp2_with fail
  have hb0 : Below w.heap.size w ((w.alloc (.cells #[.slice A ta.length c1, .slice C ha.length c3] 26)).alloc (.cells #[.slice B tb.length c2, .slice D hb.length c4] 26)) := ((Below.refl _ _).alloc (Nat.le_refl _) _).alloc (by simp) _
  refine (SM.out _ (HA.out.after hb0) (HB.out.after hb0)).mono ?_
  rintro e w1 ⟨rfl, q, rfl⟩
  by_cases h1 : ta = tb
  · rw [decide_eq_true h1]
    go_wp2_with fail
    refine (HM.out _ (HC.out.after (by repeat' (first | exact Below.refl _ _ | refine bel_drewN ?_ _ | refine Below.drew ?_ | refine Below.alloc ?_ ?_ _ | refine Below.setCell ?_ ?_ _ | exact Nat.le_refl _ | (simp; done) | (simp; omega) | assumption))) (HD.out.after (by repeat' (first | exact Below.refl _ _ | refine bel_drewN ?_ _ | refine Below.drew ?_ | refine Below.alloc ?_ ?_ _ | refine Below.setCell ?_ ?_ _ | exact Nat.le_refl _ | (simp; done) | (simp; omega) | assumption)))).mono ?_
    rintro e w2 ⟨rfl, hb2⟩
    have HB2 := Lib.hid (Below.trans (show Below w.heap.size w _ from by repeat' (first | exact Below.refl _ _ | refine bel_drewN ?_ _ | refine Below.drew ?_ | refine Below.alloc ?_ ?_ _ | refine Below.setCell ?_ ?_ _ | exact Nat.le_refl _ | (simp; done) | (simp; omega) | assumption)) (hb2.mono (by simp <;> omega)))
    have E := Lib.hid (show decide (ta = tb ∧ ha = hb) = decide (ha = hb) from by simp [h1])
    clear hb2 h1
    go_wp2_with fail
    go_ret
    exact ⟨by rw [E.out]; rfl, HB2.out⟩
  · have E := Lib.hid (show decide (ta = tb ∧ ha = hb) = false from by simp [h1])
    rw [decide_eq_false h1]
    go_wp2_with fail
    go_ret
    exact ⟨by rw [E.out]; rfl, by repeat' (first | exact Below.refl _ _ | refine bel_drewN ?_ _ | refine Below.drew ?_ | refine Below.alloc ?_ ?_ _ | refine Below.setCell ?_ ?_ _ | exact Nat.le_refl _ | (simp; done) | (simp; omega) | assumption)⟩

set_option maxRecDepth 100000 in
set_option maxHeartbeats 4000000 in
theorem parts_any (ta tb : List Nat) (ga gb : List Int) (ha hb : List (List Int)) (A B C D E F : Option Addr) (c1 c2 c3 c4 c5 c6 : Nat) (w : World) (l1 : ta.length ≤ 1000000) (l2 : tb.length ≤ 1000000) (l3 : ga.length ≤ 1000000) (l4 : gb.length ≤ 1000000) (l5 : ha.length ≤ 1000000)
    (sa : SliceG w A ta) (sb : SliceG w B tb) (sc : IntG w C ga) (sd : IntG w D gb) (se : HashG w E ha) (sf : HashG w F hb) :
    Calls Try.prog 12 #[.agg #[.slice A ta.length c1, .slice C ga.length c3, .slice E ha.length c5], .agg #[.slice B tb.length c2, .slice D gb.length c4, .slice F hb.length c6]] w (NRet (.bool (decide (ta = tb ∧ ga = gb ∧ ha = hb))) w) := by
  have SM := Lib.hid fun w h1 h2 => same_list ta tb A B c1 c2 w l1 l2 h1 h2
  have IM := Lib.hid fun w h1 h2 => ints_any ga gb C D c3 c4 w l3 l4 h1 h2
  have HM := Lib.hid fun w h1 h2 => hashes_any ha hb E F c5 c6 w l5 h1 h2
  have HA := Lib.hid sa
  have HB := Lib.hid sb
  have HC := Lib.hid sc
  have HD := Lib.hid sd
  have HE := Lib.hid se
  have HF := Lib.hid sf
  clear sa sb sc sd se sf
  go_enter Try.func12, Try.ntmps12
  go_wp2_with fail
  have hb0 : Below w.heap.size w ((w.alloc (.cells #[.slice A ta.length c1, .slice C ga.length c3, .slice E ha.length c5] 31)).alloc (.cells #[.slice B tb.length c2, .slice D gb.length c4, .slice F hb.length c6] 31)) := ((Below.refl _ _).alloc (Nat.le_refl _) _).alloc (by simp) _
  refine (SM.out _ (HA.out.after hb0) (HB.out.after hb0)).mono ?_
  rintro e w1 ⟨rfl, q, rfl⟩
  by_cases h1 : ta = tb
  · rw [decide_eq_true h1]
    go_wp2_with fail
    refine (IM.out _ (HC.out.after (by repeat' (first | exact Below.refl _ _ | refine bel_drewN ?_ _ | refine Below.drew ?_ | refine Below.alloc ?_ ?_ _ | refine Below.setCell ?_ ?_ _ | exact Nat.le_refl _ | (simp; done) | (simp; omega) | assumption))) (HD.out.after (by repeat' (first | exact Below.refl _ _ | refine bel_drewN ?_ _ | refine Below.drew ?_ | refine Below.alloc ?_ ?_ _ | refine Below.setCell ?_ ?_ _ | exact Nat.le_refl _ | (simp; done) | (simp; omega) | assumption)))).mono ?_
    rintro e w1 ⟨rfl, q2, rfl⟩
    by_cases h2 : ga = gb
    · rw [decide_eq_true h2]
      go_wp2_with fail
      refine (HM.out _ (HE.out.after (by repeat' (first | exact Below.refl _ _ | refine bel_drewN ?_ _ | refine Below.drew ?_ | refine Below.alloc ?_ ?_ _ | refine Below.setCell ?_ ?_ _ | exact Nat.le_refl _ | (simp; done) | (simp; omega) | assumption))) (HF.out.after (by repeat' (first | exact Below.refl _ _ | refine bel_drewN ?_ _ | refine Below.drew ?_ | refine Below.alloc ?_ ?_ _ | refine Below.setCell ?_ ?_ _ | exact Nat.le_refl _ | (simp; done) | (simp; omega) | assumption)))).mono ?_
      rintro e w2 ⟨rfl, hb2⟩
      have HB2 := Lib.hid (Below.trans (show Below w.heap.size w _ from by repeat' (first | exact Below.refl _ _ | refine bel_drewN ?_ _ | refine Below.drew ?_ | refine Below.alloc ?_ ?_ _ | refine Below.setCell ?_ ?_ _ | exact Nat.le_refl _ | (simp; done) | (simp; omega) | assumption)) (hb2.mono (by simp <;> omega)))
      have E := Lib.hid (show decide (ta = tb ∧ ga = gb ∧ ha = hb) = decide (ha = hb) from by simp [h1, h2])
      clear hb2 h1 h2
      go_wp2_with fail
      go_ret
      exact ⟨by rw [E.out]; rfl, HB2.out⟩
    · have E := Lib.hid (show decide (ta = tb ∧ ga = gb ∧ ha = hb) = false from by simp [h2])
      rw [decide_eq_false h2]
      go_wp2_with fail
      go_ret
      exact ⟨by rw [E.out]; rfl, by repeat' (first | exact Below.refl _ _ | refine bel_drewN ?_ _ | refine Below.drew ?_ | refine Below.alloc ?_ ?_ _ | refine Below.setCell ?_ ?_ _ | exact Nat.le_refl _ | (simp; done) | (simp; omega) | assumption)⟩
  · have E := Lib.hid (show decide (ta = tb ∧ ga = gb ∧ ha = hb) = false from by simp [h1])
    rw [decide_eq_false h1]
    go_wp2_with fail
    go_ret
    exact ⟨by rw [E.out]; rfl, by repeat' (first | exact Below.refl _ _ | refine bel_drewN ?_ _ | refine Below.drew ?_ | refine Below.alloc ?_ ?_ _ | refine Below.setCell ?_ ?_ _ | exact Nat.le_refl _ | (simp; done) | (simp; omega) | assumption)⟩

set_option maxRecDepth 100000 in
set_option maxHeartbeats 4000000 in
/-- May it be gone through? -/
theorem few_any (N : Nat) (A B C : Option Addr) (a b c a' b' c' : Nat) (w : World) :
    Calls Try.prog 5 #[.agg #[.int .u64 N, .slice A a a', .slice B b b', .slice C c c']] w (NRet (.bool (decide (a ≤ 20 ∧ b ≤ 20 ∧ c ≤ 200))) w) := by
  generalize hV : decide (a ≤ 20 ∧ b ≤ 20 ∧ c ≤ 200) = V
  by_cases h1 : a ≤ 20
  · by_cases h2 : b ≤ 20
    · have i1 : (a : Int) ≤ 20 := by omega
      have i2 : (b : Int) ≤ 20 := by omega
      have E := Lib.hid (show V = decide ((c : Int) ≤ 200) from by rw [← hV]; simp only [h1, h2, true_and]; rw [decide_eq_decide]; omega)
      clear h1 h2 hV
      go_enter Try.func5, Try.ntmps5
      go_wp2_with fail
      go_ret
      exact ⟨by rw [E.out]; rfl, by repeat' (first | exact Below.refl _ _ | refine bel_drewN ?_ _ | refine Below.drew ?_ | refine Below.alloc ?_ ?_ _ | refine Below.setCell ?_ ?_ _ | exact Nat.le_refl _ | (simp; done) | (simp; omega) | assumption)⟩
    · have i1 : (a : Int) ≤ 20 := by omega
      have i2 : ¬ (b : Int) ≤ 20 := by omega
      have E := Lib.hid (show V = false from by rw [← hV]; simp [h2])
      clear h1 h2 hV
      go_enter Try.func5, Try.ntmps5
      go_wp2_with fail
      go_ret
      exact ⟨by rw [E.out]; rfl, by repeat' (first | exact Below.refl _ _ | refine bel_drewN ?_ _ | refine Below.drew ?_ | refine Below.alloc ?_ ?_ _ | refine Below.setCell ?_ ?_ _ | exact Nat.le_refl _ | (simp; done) | (simp; omega) | assumption)⟩
  · have i1 : ¬ (a : Int) ≤ 20 := by omega
    have E := Lib.hid (show V = false from by rw [← hV]; simp [h1])
    clear h1 hV
    go_enter Try.func5, Try.ntmps5
    go_wp2_with fail
    go_ret
    exact ⟨by rw [E.out]; rfl, by repeat' (first | exact Below.refl _ _ | refine bel_drewN ?_ _ | refine Below.drew ?_ | refine Below.alloc ?_ ?_ _ | refine Below.setCell ?_ ?_ _ | exact Nat.le_refl _ | (simp; done) | (simp; omega) | assumption)⟩
end Go.Proofs.Ytnokhajjcjfbpaa
/- What fills the gaps, in words. -/
namespace Go.Proofs.Ytnokhajjcjfbpaa
open Go.RowKit Go.Shelf

theorem Gaps.up {gs : List Int} {m : Nat} (h : Gaps gs m) : gs.Pairwise (fun a b => a < b) := by
  have key : ∀ d i (hd : i + d + 1 < gs.length), gs[i]'(by omega) < gs[i + d + 1] := by
    intro d
    induction d with
    | zero =>
      intro i hd
      have := (h (i + 1) hd).2.2 (by omega)
      simpa [List.getD, List.getElem?_eq_getElem hd, List.getElem?_eq_getElem (show i < gs.length by omega)] using this
    | succ d ih =>
      intro i hd
      have h1 := ih i (by omega)
      have := (h (i + d + 1 + 1) (by omega)).2.2 (by omega)
      have h2 : gs[i + d + 1] < gs[i + d + 1 + 1]'(by omega) := by
        simpa [List.getD, List.getElem?_eq_getElem (show i + d + 1 + 1 < gs.length by omega), List.getElem?_eq_getElem (show i + d + 1 < gs.length by omega)] using this
      have e : i + (d + 1) + 1 = i + d + 1 + 1 := by omega
      simp only [e]
      omega
  rw [List.pairwise_iff_getElem]
  intro i j hi hj hij
  have := key (j - i - 1) i (by omega)
  have e : i + (j - i - 1) + 1 = j := by omega
  simpa only [e] using this
theorem Gaps.in {gs : List Int} {m : Nat} (h : Gaps gs m) {g : Int} (hg : g ∈ gs) : 0 ≤ g ∧ g < m := by
  obtain ⟨i, hi⟩ := List.mem_iff_getElem?.1 hg
  have := h i (List.getElem?_eq_some_iff.1 hi).1
  have e : gs.getD i 0 = g := by simp [List.getD, hi]
  rw [← e]
  exact ⟨this.1, this.2.1⟩
/-- How many gaps lie below. -/
def cnt (gs : List Int) (i : Nat) : Nat := (gs.filter fun g => decide (g < (i : Int))).length
theorem cnt_cons (g : Int) (gs : List Int) (i : Nat) : cnt (g :: gs) i = (if g < (i : Int) then 1 else 0) + cnt gs i := by
  unfold cnt
  rw [List.filter_cons]
  split <;> rename_i h
  · simp at h
    rw [if_pos h, List.length_cons]
    omega
  · simp at h
    rw [if_neg (by omega)]
    omega
theorem cnt_none {gs : List Int} {i : Nat} (h : ∀ g ∈ gs, (i : Int) ≤ g) : cnt gs i = 0 := by
  unfold cnt
  rw [List.length_eq_zero_iff, List.filter_eq_nil_iff]
  intro g hg
  have := h g hg
  simp
  omega
theorem cnt_hit : ∀ {gs : List Int} {i : Nat}, gs.Pairwise (fun a b => a < b) → (i : Int) ∈ gs → gs[cnt gs i]? = some (i : Int)
  | [], _, _, h => by simp at h
  | g :: gs, i, hp, h => by
    obtain ⟨h1, h2⟩ := List.pairwise_cons.1 hp
    rcases List.mem_cons.1 h with e | h
    · rw [cnt_none (fun x hx => by rcases List.mem_cons.1 hx with rfl | hx; omega; have := h1 x hx; omega), e]
      rfl
    · rw [cnt_cons, if_pos (h1 _ h), Nat.add_comm]
      exact cnt_hit h2 h
theorem cnt_succ : ∀ {gs : List Int} (i : Nat), gs.Pairwise (fun a b => a < b) → cnt gs (i + 1) = cnt gs i + (if (i : Int) ∈ gs then 1 else 0)
  | [], i, _ => by simp [cnt]
  | g :: gs, i, hp => by
    obtain ⟨h1, h2⟩ := List.pairwise_cons.1 hp
    have ih := cnt_succ i h2
    rw [cnt_cons, cnt_cons, ih]
    by_cases e : (i : Int) = g
    · have hn : (i : Int) ∉ gs := fun h => by have := h1 _ h; omega
      rw [if_neg hn, if_pos (List.mem_cons.2 (.inl e)), if_pos (by omega), if_neg (by omega)]
      omega
    · by_cases hm : (i : Int) ∈ gs
      · rw [if_pos hm, if_pos (List.mem_cons_of_mem _ hm)]
        have := h1 _ hm
        rw [if_pos (by omega), if_pos (by omega)]
        omega
      · have hm2 : (i : Int) ∉ g :: gs := fun h => by rcases List.mem_cons.1 h with h | h; exact e h; exact hm h
        rw [if_neg hm, if_neg hm2]
        by_cases hg : g < (i : Int)
        · rw [if_pos (show g < ((i + 1 : Nat) : Int) by omega), if_pos hg]
          omega
        · rw [if_neg (show ¬ g < ((i + 1 : Nat) : Int) by omega), if_neg hg]
          omega
theorem cnt_le {gs : List Int} (hp : gs.Pairwise (fun a b => a < b)) (h0 : ∀ g ∈ gs, 0 ≤ g) : ∀ i, cnt gs i ≤ i
  | 0 => by rw [cnt_none (fun g hg => h0 g hg)]; exact Nat.le_refl 0
  | i + 1 => by
    rw [cnt_succ i hp]
    have := cnt_le hp h0 i
    split <;> omega
theorem cnt_all {gs : List Int} {m : Nat} (h : ∀ g ∈ gs, g < (m : Int)) : cnt gs m = gs.length := by
  unfold cnt
  rw [List.filter_eq_self.2 (fun g hg => by simpa using h g hg)]
theorem rest_mono {gs : List Int} (hp : gs.Pairwise (fun a b => a < b)) (h0 : ∀ g ∈ gs, 0 ≤ g) (i : Nat) : ∀ d, i - cnt gs i ≤ (i + d) - cnt gs (i + d)
  | 0 => Nat.le_refl _
  | d + 1 => by
    have h1 := rest_mono hp h0 i d
    have h2 := cnt_succ (i + d) hp
    have h3 := cnt_le hp h0 (i + d)
    rw [show i + (d + 1) = i + d + 1 by omega, h2]
    split <;> omega
theorem rest_lt {gs : List Int} {m i h : Nat} (hg : Gaps gs m) (hm : gs.length + h = m) (hi : i < m) (hn : (i : Int) ∉ gs) : i - cnt gs i < h := by
  have hp := hg.up
  have h0 : ∀ g ∈ gs, 0 ≤ g := fun g hg' => (hg.in hg').1
  have h1 := rest_mono hp h0 (i + 1) (m - (i + 1))
  have h2 := cnt_succ i hp
  rw [if_neg hn] at h2
  have h3 := cnt_le hp h0 i
  rw [show i + 1 + (m - (i + 1)) = m by omega, cnt_all (fun g hg' => (hg.in hg').2)] at h1
  omega
/-- What is filled in, of the first i needed ones; none: something is not known. -/
def fillOf (gs : List Int) (hs : List (List Int)) (lk : Nat → Option (List Int)) (nl : List Nat) : Nat → Option (List (List Int))
  | 0 => some []
  | i + 1 => match fillOf gs hs lk nl i with
    | none => none
    | some out => if (i : Int) ∈ gs then (match lk (nl.getD i 0) with
      | none => none
      | some x => some (out ++ [x])) else some (out ++ [hs.getD (i - cnt gs i) []])
theorem fill_none {gs : List Int} {hs : List (List Int)} {lk : Nat → Option (List Int)} {nl : List Nat} {i : Nat} (h : fillOf gs hs lk nl i = none) : ∀ d, fillOf gs hs lk nl (i + d) = none
  | 0 => h
  | d + 1 => by
    show fillOf gs hs lk nl (i + d + 1) = none
    unfold fillOf
    rw [fill_none h d]
theorem fill_stop {gs : List Int} {hs : List (List Int)} {lk : Nat → Option (List Int)} {nl : List Nat} {i x : Nat} {out : List (List Int)} (h : fillOf gs hs lk nl i = some out) (hx : nl[i]? = some x) (hg : (i : Int) ∈ gs) (hl : lk x = none) : fillOf gs hs lk nl nl.length = none := by
  have hlt := (List.getElem?_eq_some_iff.1 hx).1
  have h1 : fillOf gs hs lk nl (i + 1) = none := by
    unfold fillOf
    simp [h, hg, List.getD, hx, hl]
  have := fill_none h1 (nl.length - (i + 1))
  rwa [show i + 1 + (nl.length - (i + 1)) = nl.length by omega] at this
theorem fill_gap {gs : List Int} {hs : List (List Int)} {lk : Nat → Option (List Int)} {nl : List Nat} {i x : Nat} {y : List Int} {out : List (List Int)} (h : fillOf gs hs lk nl i = some out) (hx : nl[i]? = some x) (hg : (i : Int) ∈ gs) (hl : lk x = some y) : fillOf gs hs lk nl (i + 1) = some (out ++ [y]) := by
  rw [fillOf]
  simp [h, hg, List.getD, hx, hl]
theorem fill_rest {gs : List Int} {hs : List (List Int)} {lk : Nat → Option (List Int)} {nl : List Nat} {i : Nat} {y : List Int} {out : List (List Int)} (h : fillOf gs hs lk nl i = some out) (hg : (i : Int) ∉ gs) (hl : hs[i - cnt gs i]? = some y) : fillOf gs hs lk nl (i + 1) = some (out ++ [y]) := by
  rw [fillOf]
  simp [h, hg, List.getD, hl]
theorem fill_len {gs : List Int} {hs : List (List Int)} {lk : Nat → Option (List Int)} {nl : List Nat} : ∀ {i : Nat} {out : List (List Int)}, fillOf gs hs lk nl i = some out → out.length = i
  | 0, out, h => by cases h; rfl
  | i + 1, out, h => by
    rw [fillOf] at h
    cases h1 : fillOf gs hs lk nl i with
    | none => rw [h1] at h; cases h
    | some o =>
      rw [h1] at h
      have ih := fill_len h1
      simp only at h
      split at h
      · cases h2 : lk (nl.getD i 0) with
        | none => rw [h2] at h; cases h
        | some x => rw [h2] at h; cases h; simp [ih]
      · cases h
        simp [ih]
/-- What a Fill that does not answer returns. -/
def FillErr (w : World) (e : Ending) (w' : World) : Prop := e = .returned (.tuple #[.agg #[.slice none 0 0, .slice none 0 0], .int .i64 33]) ∧ Below w.heap.size w w'
def FillOK (ts : List Nat) (out : List (List Int)) (w : World) (e : Ending) (w' : World) : Prop := ∃ T c H h,
  e = .returned (.tuple #[.agg #[.slice T ts.length c, .slice H out.length h], .int .i64 0]) ∧ SliceAt w' T ts ∧ HashG w' H out ∧ Below w.heap.size w w'
/-- May it be filled in, and what comes of it. -/
def FillRet (n : Nat) (ts : List Nat) (gs : List Int) (hs : List (List Int)) (lk : Nat → Option (List Int)) (w : World) (e : Ending) (w' : World) : Prop :=
  (¬ Valid n ts ∧ FillErr w e w') ∨ ∃ nl, Valid n ts ∧ IsNeed n ts nl ∧ ((¬ (Gaps gs nl.length ∧ gs.length + hs.length = nl.length) ∧ FillErr w e w') ∨
    ((Gaps gs nl.length ∧ gs.length + hs.length = nl.length) ∧ ((fillOf gs hs lk nl nl.length = none ∧ FillErr w e w') ∨ ∃ out, fillOf gs hs lk nl nl.length = some out ∧ FillOK ts out w e w')))
end Go.Proofs.Ytnokhajjcjfbpaa
