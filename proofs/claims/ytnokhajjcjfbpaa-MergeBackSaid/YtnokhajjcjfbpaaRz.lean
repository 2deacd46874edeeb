/- The document's add. -/
import Derived.Test.YtnokhajjcjfbpaaRy
namespace Go.Proofs.Ytnokhajjcjfbpaa
open Go.RowKit Go.Shelf

/-- A rising list with one number more. -/
structure Added (l : List Nat) (p : Nat) (L : List Nat) : Prop where
  up : L.Pairwise (fun a b => a < b)
  mem : ∀ x, x ∈ L ↔ x ∈ l ∨ x = p
  len : L.length ≤ l.length + 1
theorem Added.same {l : List Nat} {p : Nat} (h : l.Pairwise (fun a b => a < b)) (hp : p ∈ l) : Added l p l := ⟨h, fun x => ⟨.inl, fun e => by rcases e with e | rfl; exact e; exact hp⟩, by omega⟩
theorem Added.cut {l : List Nat} {p k : Nat} (h : l.Pairwise (fun a b => a < b)) (hp : p ∉ l) (h1 : ∀ x ∈ l.take k, x < p) (h2 : ∀ y, l[k]? = some y → ¬ y < p) : Added l p (l.take k ++ [p] ++ l.drop k) := by
  have hd : ∀ y ∈ l.drop k, p < y := by
    intro y hy
    obtain ⟨j, hj⟩ := List.mem_iff_getElem?.1 hy
    rw [List.getElem?_drop] at hj
    have hjl := (List.getElem?_eq_some_iff.1 hj).1
    have hk : l[k]? = some l[k] := List.getElem?_eq_getElem (by omega)
    have h3 := h2 _ hk
    have hm : l[k] ∈ l := List.getElem_mem _
    have h4 : l[k] ≠ p := fun e => hp (e ▸ hm)
    rcases Nat.eq_zero_or_pos j with rfl | hj0
    · rw [Nat.add_zero, hk] at hj
      injection hj with hj
      omega
    · have := List.pairwise_iff_getElem.1 h k (k + j) (by omega) hjl (by omega)
      have e : l[k + j] = y := by rw [List.getElem?_eq_getElem hjl] at hj; injection hj
      omega
  have hs := List.take_append_drop k l
  have h' := h
  rw [← hs, List.pairwise_append] at h'
  obtain ⟨p1, p2, p3⟩ := h'
  refine ⟨?_, fun x => ?_, ?_⟩
  · rw [List.append_assoc, List.pairwise_append]
    refine ⟨p1, List.pairwise_cons.2 ⟨fun y hy => hd y hy, p2⟩, fun a ha b hb => ?_⟩
    rcases List.mem_cons.1 hb with rfl | hb
    · exact h1 a ha
    · exact p3 a ha b hb
  · conv => rhs; rw [← hs]
    simp only [List.mem_append, List.mem_singleton]
    constructor
    · rintro ((h | h) | h)
      · exact .inl (.inl h)
      · exact .inr h
      · exact .inl (.inr h)
    · rintro ((h | h) | h)
      · exact .inl (.inl h)
      · exact .inr h
      · exact .inl (.inr h)
  · simp
    omega
theorem get_take {l : List Nat} {k j x : Nat} (h : (l.take k)[j]? = some x) : l[j]? = some x := by
  rw [List.getElem?_take] at h
  split at h
  · exact h
  · cases h
theorem ru_part {w : World} {g k : Nat} {l m : List Nat} (hs : SliceAt w (some ⟨g, 0, none⟩) l) (hg : g < w.heap.size) (hm : ∀ j x, m[j]? = some x → l[k + j]? = some x) : Ru w (some ⟨g, k, none⟩) m := fun _ => by
  refine ⟨_, rfl, hg, fun j x hx => ?_⟩
  have h1 := hm j x hx
  obtain ⟨g', e, _, h3⟩ := hs (k + j) (List.getElem?_eq_some_iff.1 h1).1
  cases e
  rw [h1] at h3
  have e : (Addr.add ⟨g, k, none⟩ j) = ⟨g, k + j, none⟩ := by
    unfold Addr.add
    split
    · rename_i h0; subst h0; rfl
    · rfl
  rw [e]
  exact h3
theorem ru_new (w : World) (p : Nat) : Ru (w.alloc (.cells #[.int .u64 p] 22)) (some ⟨w.heap.size, 0, none⟩) [p] := fun _ => by
  refine ⟨_, rfl, by simp, fun j x hx => ?_⟩
  rcases j with _ | j
  · cases hx
    exact (IsBlk.new w _ _).cell 0
  · cases hx
theorem ru_nil (m : List Nat) (w : World) (A : Option Addr) (h : m = []) : Ru w A m := fun h0 => by rw [h] at h0; simp at h0
theorem ru_drop {l : List Nat} (w : World) (A : Option Addr) : Ru w A (l.drop l.length) := ru_nil _ w A (by simp)
def AddRet (l : List Nat) (p : Nat) (w : World) (e : Ending) (w' : World) : Prop := ∃ L A c, Added l p L ∧ e = .returned (.slice A L.length c) ∧ ListV w' A c L ∧ Below w.heap.size w w'

set_option maxHeartbeats 2000000 in
theorem add_list (l : List Nat) (A : Option Addr) (c p : Nat) (w : World) (hlen : l.length ≤ 1000000) (hs : ListV w A c l) (hup : l.Pairwise (fun a b => a < b)) : Calls Try.prog 34 #[.slice A l.length c, .int .u64 p] w (AddRet l p w) := by
  have HH := Lib.hid fun w (h : SliceAt w A l) => has_list l A c p w hlen h.gen
  by_cases hp : p ∈ l
  · go_enter Try.func34, Try.ntmps34
    rw [decide_eq_true hp] at HH
    have HP := Lib.hid hp
    clear hp
    go_wp2_with (go_at_call 33; refine (HH.out _ hs.at').mono ?_; rintro e w' ⟨rfl, rfl⟩)
    go_ret
    exact ⟨l, A, c, Added.same hup HP.out, rfl, hs, Below.refl _ _⟩
  · rw [decide_eq_false hp] at HH
    have HP := Lib.hid hp
    clear hp
    have hcap := hs.cap
    go_enter Try.func34, Try.ntmps34
    go_wp2_with (go_at_call 33; refine (HH.out _ hs.at').mono ?_; rintro e w' ⟨rfl, rfl⟩)
    rcases A with _ | ad
    · have hc0 := hs.nil rfl
      subst hc0
      have hl0 : l = [] := List.eq_nil_of_length_eq_zero (by omega)
      have hll : l.length = 0 := by omega
      rw [hll]
      go_loopw [5] (fun v wr => v = .int .i64 0 ∧ wr = w) (fun v _ => 0)
      case atStart => exact ⟨rfl, rfl⟩
      case round =>
        obtain ⟨rfl, rfl⟩ := hrel
        have AD := Lib.hid (Added.cut (k := 0) hup HP.out (by simp) (fun y hy => by rw [hl0] at hy; cases hy))
        have RT := Lib.hid (fun (w : World) (A : Option Addr) => ru_nil (l.take 0) w A (by simp [hl0]))
        have RD := Lib.hid (fun (w : World) (A : Option Addr) => ru_nil (l.drop 0) w A (by simp [hl0]))
        have hlt' : (l.take 0).length = 0 := by rw [List.length_take]; omega
        have hld : (l.drop 0).length = l.length - 0 := by rw [List.length_drop]
        obtain ⟨X, hX⟩ : ∃ X, X = l.take 0 := ⟨_, rfl⟩
        obtain ⟨Y, hY⟩ : ∃ Y, Y = l.drop 0 := ⟨_, rfl⟩
        rw [← hX] at hlt' RT AD
        rw [← hY] at hld RD AD
        clear hX hY
        go_wp2_with (first
          | (at_builtin; refine wpList_append_nums rfl _ _ rfl wr.heap.size (.slice none 0 0) [] rfl (OwnU.nil _ _) _ _ _ X rfl (by rw [hlt']) (by exact RT.out _ _) (by simp; omega) (Nat.le_refl _) 0 (by rw [hlt']; simp) X rfl ?_; intro A1 c1 w1 h1 hg1; have H1 := Lib.hid h1; have G1 := Lib.hid hg1; clear h1 hg1)
          | (at_builtin; refine wpList_append_nums rfl _ _ rfl wr.heap.size (.slice A1 0 c1) X rfl (World.ownsRow.alloc H1.out _) _ _ _ [p] rfl rfl (by exact ru_new w1 p) (by simp; omega) (by have := G1.out.size; simp; omega) (0 + 1) (by rw [hlt']; simp) (X ++ [p]) rfl ?_; intro A2 c2 w2 h2 hg2; have H2 := Lib.hid h2; have G2 := Lib.hid hg2; clear h2 hg2)
          | (at_builtin; refine wpList_append_nums rfl _ _ rfl wr.heap.size (.slice A2 (0 + 1) c2) (X ++ [p]) rfl H2.out _ _ _ Y rfl (by first | (rw [hld]; done) | omega | (rw [hld]; simp)) (by exact RD.out _ _) (by simp; omega) (by have := G1.out.size; have := G2.out.size; simp at this; omega) 1 (by simp; omega) (X ++ [p] ++ Y) rfl ?_; intro A3 c3 w3 h3 hg3; have H3 := Lib.hid h3; have G3 := Lib.hid hg3; clear h3 hg3))
        go_ret
        have b1 : Below wr.heap.size wr w1 := (Below.refl _ wr).grown G1.out (Nat.le_refl _) (fun k hk => by cases hk)
        have b2 : Below wr.heap.size wr w2 := bel_append b1 b1.size H1.out G2.out
        have b3 : Below wr.heap.size wr w3 := b2.grown G3.out b2.size (fun k hk => (World.ownsRow.lt H2.out k hk).1)
        have hL : (X ++ [p] ++ Y).length = l.length + 1 := by simp; omega
        exact ⟨X ++ [p] ++ Y, A3, c3, AD.out, by rw [hL]; (try rw [hll]); rfl, ListV.of_own H3.out (by omega), b3⟩
    · obtain ⟨g, rfl, hgl⟩ := hs.one ad rfl
      go_loopw [5] (fun v wr => ∃ k : Nat, k ≤ l.length ∧ v = .int .i64 k ∧ (∀ x ∈ l.take k, x < p) ∧ wr = w) (fun v _ => l.length - (intOf v).toNat)
      case atStart => exact ⟨0, by omega, rfl, by simp, rfl⟩
      case round =>
        obtain ⟨k, hk, rfl, hle, rfl⟩ := hrel
        by_cases hlt : k < l.length
        · obtain ⟨_, e, hg, hc⟩ := hs.at' k hlt
          cases e
          have hx : l[k]? = some l[k] := List.getElem?_eq_getElem hlt
          rw [hx] at hc
          simp only [Option.map_some] at hc
          have k1 : (k : Int) < l.length := by omega
          have HX := Lib.hid hx
          clear hx
          generalize l[k] = z at *
          by_cases hz : z < p
          · have hzp : (z : Int) < p := by omega
            have NO := Lib.hid (show ∀ x ∈ l.take (k + 1), x < p from fun x hm => by
              rw [List.take_add_one, HX.out] at hm
              rcases List.mem_append.1 hm with h | h
              · exact hle x h
              · simp at h
                rw [h]
                exact hz)
            clear hle
            go_wp2_with fail
            exact ⟨⟨k + 1, by omega, by go_num, NO.out, trivial⟩, by simp [intOf]; omega⟩
          · have hzp : ¬ (z : Int) < p := by omega
            have AD := Lib.hid (Added.cut hup HP.out hle (fun y hy => by rw [HX.out] at hy; cases hy; exact hz))
            clear hle hz
            have hkc : (k : Int) < c := by omega
            rcases Nat.eq_zero_or_pos k with hk0 | hk0
            · subst hk0
              have RT := Lib.hid (ru_part (m := l.take 0) (k := 0) hs.at' hgl (fun j x hx => by rw [Nat.zero_add]; exact get_take hx))
              have RD := Lib.hid (ru_part (m := l.drop 0) (k := 0) hs.at' hgl (fun j x hx => by rwa [List.getElem?_drop] at hx))
              have hlt' : (l.take 0).length = 0 := by rw [List.length_take]; omega
              have hld : (l.drop 0).length = l.length - 0 := by rw [List.length_drop]
              obtain ⟨X, hX⟩ : ∃ X, X = l.take 0 := ⟨_, rfl⟩
              obtain ⟨Y, hY⟩ : ∃ Y, Y = l.drop 0 := ⟨_, rfl⟩
              rw [← hX] at hlt' RT AD
              rw [← hY] at hld RD AD
              clear hX hY
              go_wp2_with (first
                | (at_builtin; refine wpList_append_nums rfl _ _ rfl wr.heap.size (.slice none 0 0) [] rfl (OwnU.nil _ _) _ _ _ X rfl (by rw [hlt']) (by exact RT.out) (by simp; omega) (Nat.le_refl _) 0 (by rw [hlt']; simp) X rfl ?_; intro A1 c1 w1 h1 hg1; have H1 := Lib.hid h1; have G1 := Lib.hid hg1; clear h1 hg1)
                | (at_builtin; refine wpList_append_nums rfl _ _ rfl wr.heap.size (.slice A1 0 c1) X rfl (World.ownsRow.alloc H1.out _) _ _ _ [p] rfl rfl (by exact ru_new w1 p) (by simp; omega) (by have := G1.out.size; simp; omega) (0 + 1) (by rw [hlt']; simp) (X ++ [p]) rfl ?_; intro A2 c2 w2 h2 hg2; have H2 := Lib.hid h2; have G2 := Lib.hid hg2; clear h2 hg2)
                | (at_builtin; refine wpList_append_nums rfl _ _ rfl wr.heap.size (.slice A2 (0 + 1) c2) (X ++ [p]) rfl H2.out _ _ _ Y rfl (by first | (rw [hld]; done) | omega | (rw [hld]; simp)) (by exact RD.out.after (bel_append ((Below.refl _ wr).grown G1.out (Nat.le_refl _) (fun k hk => by cases hk)) (G1.out.size) H1.out G2.out)) (by simp; omega) (by have := G1.out.size; have := G2.out.size; simp at this; omega) (l.length + 1) (by simp; omega) (X ++ [p] ++ Y) rfl ?_; intro A3 c3 w3 h3 hg3; have H3 := Lib.hid h3; have G3 := Lib.hid hg3; clear h3 hg3))
              go_ret
              have b1 : Below wr.heap.size wr w1 := (Below.refl _ wr).grown G1.out (Nat.le_refl _) (fun k hk => by cases hk)
              have b2 : Below wr.heap.size wr w2 := bel_append b1 b1.size H1.out G2.out
              have b3 : Below wr.heap.size wr w3 := b2.grown G3.out b2.size (fun k hk => (World.ownsRow.lt H2.out k hk).1)
              have hL : (X ++ [p] ++ Y).length = l.length + 1 := by simp; omega
              exact ⟨X ++ [p] ++ Y, A3, c3, AD.out, by rw [hL]; rfl, ListV.of_own H3.out (by omega), b3⟩
            · have hk1 : (k : Int) ≠ 0 := by omega
              have RT := Lib.hid (ru_part (m := l.take k) (k := 0) hs.at' hgl (fun j x hx => by rw [Nat.zero_add]; exact get_take hx))
              have RD := Lib.hid (ru_part (m := l.drop k) (k := k) hs.at' hgl (fun j x hx => by rwa [List.getElem?_drop] at hx))
              have hlt' : (l.take k).length = k := by rw [List.length_take]; omega
              have hld : (l.drop k).length = l.length - k := by rw [List.length_drop]
              obtain ⟨X, hX⟩ : ∃ X, X = l.take k := ⟨_, rfl⟩
              obtain ⟨Y, hY⟩ : ∃ Y, Y = l.drop k := ⟨_, rfl⟩
              rw [← hX] at hlt' RT AD
              rw [← hY] at hld RD AD
              clear hX hY
              go_wp2_with (first
                | (at_builtin; refine wpList_append_nums rfl _ _ rfl wr.heap.size (.slice none 0 0) [] rfl (OwnU.nil _ _) _ _ _ X rfl (by rw [hlt']) (by exact RT.out) (by simp; omega) (Nat.le_refl _) k (by rw [hlt']; simp) X rfl ?_; intro A1 c1 w1 h1 hg1; have H1 := Lib.hid h1; have G1 := Lib.hid hg1; clear h1 hg1)
                | (at_builtin; refine wpList_append_nums rfl _ _ rfl wr.heap.size (.slice A1 k c1) X rfl (World.ownsRow.alloc H1.out _) _ _ _ [p] rfl rfl (by exact ru_new w1 p) (by simp; omega) (by have := G1.out.size; simp; omega) (k + 1) (by rw [hlt']; simp) (X ++ [p]) rfl ?_; intro A2 c2 w2 h2 hg2; have H2 := Lib.hid h2; have G2 := Lib.hid hg2; clear h2 hg2)
                | (at_builtin; refine wpList_append_nums rfl _ _ rfl wr.heap.size (.slice A2 (k + 1) c2) (X ++ [p]) rfl H2.out _ _ _ Y rfl (by first | (rw [hld]; done) | omega | (rw [hld]; simp)) (by exact RD.out.after (bel_append ((Below.refl _ wr).grown G1.out (Nat.le_refl _) (fun k hk => by cases hk)) (G1.out.size) H1.out G2.out)) (by simp; omega) (by have := G1.out.size; have := G2.out.size; simp at this; omega) (l.length + 1) (by simp; omega) (X ++ [p] ++ Y) rfl ?_; intro A3 c3 w3 h3 hg3; have H3 := Lib.hid h3; have G3 := Lib.hid hg3; clear h3 hg3))
              go_ret
              have b1 : Below wr.heap.size wr w1 := (Below.refl _ wr).grown G1.out (Nat.le_refl _) (fun k hk => by cases hk)
              have b2 : Below wr.heap.size wr w2 := bel_append b1 b1.size H1.out G2.out
              have b3 : Below wr.heap.size wr w3 := b2.grown G3.out b2.size (fun k hk => (World.ownsRow.lt H2.out k hk).1)
              have hL : (X ++ [p] ++ Y).length = l.length + 1 := by simp; omega
              exact ⟨X ++ [p] ++ Y, A3, c3, AD.out, by rw [hL]; rfl, ListV.of_own H3.out (by omega), b3⟩
        · obtain rfl : k = l.length := by omega
          have AD := Lib.hid (Added.cut hup HP.out hle (fun y hy => by have := (List.getElem?_eq_some_iff.1 hy).1; omega))
          have hck : (c : Int) = l.length ∨ (l.length : Int) < c := by omega
          clear hle
          rcases hck with hck | hck
          · have hc' : c = l.length := by omega
            subst hc'
            have RT := Lib.hid (ru_part (m := l.take l.length) (k := 0) hs.at' hgl (fun j x hx => by rw [Nat.zero_add]; exact get_take hx))
            have RD := Lib.hid (fun (w : World) (A : Option Addr) => ru_drop (l := l) w A)
            have hlt' : (l.take l.length).length = l.length := by rw [List.length_take]; omega
            have hld : (l.drop l.length).length = l.length - l.length := by rw [List.length_drop]
            obtain ⟨X, hX⟩ : ∃ X, X = l.take l.length := ⟨_, rfl⟩
            obtain ⟨Y, hY⟩ : ∃ Y, Y = l.drop l.length := ⟨_, rfl⟩
            rw [← hX] at hlt' RT AD
            rw [← hY] at hld RD AD
            clear hX hY
            go_wp2_with (first
              | (at_builtin; refine wpList_append_nums rfl _ _ rfl wr.heap.size (.slice none 0 0) [] rfl (OwnU.nil _ _) _ _ _ X rfl (by rw [hlt']) (by exact RT.out) (by simp; omega) (Nat.le_refl _) l.length (by rw [hlt']; simp) X rfl ?_; intro A1 c1 w1 h1 hg1; have H1 := Lib.hid h1; have G1 := Lib.hid hg1; clear h1 hg1)
              | (at_builtin; refine wpList_append_nums rfl _ _ rfl wr.heap.size (.slice A1 l.length c1) X rfl (World.ownsRow.alloc H1.out _) _ _ _ [p] rfl rfl (by exact ru_new w1 p) (by simp; omega) (by have := G1.out.size; simp; omega) (l.length + 1) (by rw [hlt']; simp) (X ++ [p]) rfl ?_; intro A2 c2 w2 h2 hg2; have H2 := Lib.hid h2; have G2 := Lib.hid hg2; clear h2 hg2)
              | (at_builtin; refine wpList_append_nums rfl _ _ rfl wr.heap.size (.slice A2 (l.length + 1) c2) (X ++ [p]) rfl H2.out _ _ _ Y rfl (by first | (rw [hld]; done) | omega | (rw [hld]; simp)) (by exact RD.out _ _) (by simp; omega) (by have := G1.out.size; have := G2.out.size; simp at this; omega) (l.length + 1) (by simp; omega) (X ++ [p] ++ Y) rfl ?_; intro A3 c3 w3 h3 hg3; have H3 := Lib.hid h3; have G3 := Lib.hid hg3; clear h3 hg3))
            go_ret
            have b1 : Below wr.heap.size wr w1 := (Below.refl _ wr).grown G1.out (Nat.le_refl _) (fun k hk => by cases hk)
            have b2 : Below wr.heap.size wr w2 := bel_append b1 b1.size H1.out G2.out
            have b3 : Below wr.heap.size wr w3 := b2.grown G3.out b2.size (fun k hk => (World.ownsRow.lt H2.out k hk).1)
            have hL : (X ++ [p] ++ Y).length = l.length + 1 := by simp; omega
            exact ⟨X ++ [p] ++ Y, A3, c3, AD.out, by rw [hL]; rfl, ListV.of_own H3.out (by omega), b3⟩
          · skip
            have RT := Lib.hid (ru_part (m := l.take l.length) (k := 0) hs.at' hgl (fun j x hx => by rw [Nat.zero_add]; exact get_take hx))
            have RD := Lib.hid (fun (w : World) (A : Option Addr) => ru_drop (l := l) w A)
            have hlt' : (l.take l.length).length = l.length := by rw [List.length_take]; omega
            have hld : (l.drop l.length).length = l.length - l.length := by rw [List.length_drop]
            obtain ⟨X, hX⟩ : ∃ X, X = l.take l.length := ⟨_, rfl⟩
            obtain ⟨Y, hY⟩ : ∃ Y, Y = l.drop l.length := ⟨_, rfl⟩
            rw [← hX] at hlt' RT AD
            rw [← hY] at hld RD AD
            clear hX hY
            go_wp2_with (first
              | (at_builtin; refine wpList_append_nums rfl _ _ rfl wr.heap.size (.slice none 0 0) [] rfl (OwnU.nil _ _) _ _ _ X rfl (by rw [hlt']) (by exact RT.out) (by simp; omega) (Nat.le_refl _) l.length (by rw [hlt']; simp) X rfl ?_; intro A1 c1 w1 h1 hg1; have H1 := Lib.hid h1; have G1 := Lib.hid hg1; clear h1 hg1)
              | (at_builtin; refine wpList_append_nums rfl _ _ rfl wr.heap.size (.slice A1 l.length c1) X rfl (World.ownsRow.alloc H1.out _) _ _ _ [p] rfl rfl (by exact ru_new w1 p) (by simp; omega) (by have := G1.out.size; simp; omega) (l.length + 1) (by rw [hlt']; simp) (X ++ [p]) rfl ?_; intro A2 c2 w2 h2 hg2; have H2 := Lib.hid h2; have G2 := Lib.hid hg2; clear h2 hg2)
              | (at_builtin; refine wpList_append_nums rfl _ _ rfl wr.heap.size (.slice A2 (l.length + 1) c2) (X ++ [p]) rfl H2.out _ _ _ Y rfl (by first | (rw [hld]; done) | omega | (rw [hld]; simp)) (by exact RD.out _ _) (by simp; omega) (by have := G1.out.size; have := G2.out.size; simp at this; omega) (l.length + 1) (by simp; omega) (X ++ [p] ++ Y) rfl ?_; intro A3 c3 w3 h3 hg3; have H3 := Lib.hid h3; have G3 := Lib.hid hg3; clear h3 hg3))
            go_ret
            have b1 : Below wr.heap.size wr w1 := (Below.refl _ wr).grown G1.out (Nat.le_refl _) (fun k hk => by cases hk)
            have b2 : Below wr.heap.size wr w2 := bel_append b1 b1.size H1.out G2.out
            have b3 : Below wr.heap.size wr w3 := b2.grown G3.out b2.size (fun k hk => (World.ownsRow.lt H2.out k hk).1)
            have hL : (X ++ [p] ++ Y).length = l.length + 1 := by simp; omega
            exact ⟨X ++ [p] ++ Y, A3, c3, AD.out, by rw [hL]; rfl, ListV.of_own H3.out (by omega), b3⟩
end Go.Proofs.Ytnokhajjcjfbpaa
