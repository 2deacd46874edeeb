/- Maps from uint64 to int whose counts are a function of the key. -/
import Derived.Test.YtnokhajjcjfbpaaRange
import Derived.Maps.OwnIn
namespace Go.Proofs.Ytnokhajjcjfbpaa
open Go.RowKit Go.Maps

/-- Block b is a map of at most n entries, in which each number x is counted f x times; what is not counted is not there. -/
def NMap (W : World) (b n : Nat) (f : Nat → Nat) : Prop := ∃ D : DataW Unit, W.ownsMap Try.prog 22 (plainElem (H := Unit) Try.prog 3) b n D ∧
  ∀ x : Nat, (x : Int) ≤ 18446744073709551615 → D.atKey (.int .u64 x) (.lit (.int .i64 0)) = .lit (.int .i64 (f x)) ∧ (has D (.int .u64 x) = true ↔ 0 < f x)
def upd (f : Nat → Nat) (x v : Nat) : Nat → Nat := fun y => if y = x then v else f y

theorem wfu {x : Nat} (h : (x : Int) ≤ 18446744073709551615) : (Lit.int .u64 x).wf = true := by
  simp [Lit.wf, IntKind.bits, IntKind.signed, IntKind.min, IntKind.max]
  omega
theorem wfi {x : Nat} (h : (x : Int) ≤ 9223372036854775807) : (Lit.int .i64 x).wf = true := by
  simp [Lit.wf, IntKind.bits, IntKind.signed, IntKind.min, IntKind.max]
  omega
theorem keyU {x : Nat} (h : (x : Int) ≤ 18446744073709551615) : keyOf Try.prog 22 (.int .u64 x) = some (.int .u64 x) := keyOf_int_mk Try.underlying22 (wfu h)
theorem keyedU : Keyed Try.prog 22 := int_keyed Try.underlying22

section
variable {W W' : World} {b n : Nat} {f : Nat → Nat}
theorem NMap.lt (h : NMap W b n f) : b < W.heap.size := by obtain ⟨D, h1, _⟩ := h; exact h1.lt
theorem NMap.mono (h : NMap W b n f) {m : Nat} (hm : n ≤ m) : NMap W b m f := by obtain ⟨D, h1, h2⟩ := h; exact ⟨D, h1.mono hm, h2⟩
theorem NMap.kept {row : Option Nat} (h : NMap W b n f) (hg : W.grownBy W' row) (hne : some b ≠ row) : NMap W' b n f := by obtain ⟨D, h1, h2⟩ := h; exact ⟨D, h1.kept hg hne, h2⟩
theorem NMap.alloc (h : NMap W b n f) (o : Obj) : NMap (W.alloc o) b n f := h.kept (World.grownBy_alloc W o none) (by simp)
theorem NMap.drewN (h : NMap W b n f) (q : Nat) : NMap (W.drewN q) b n f := h
theorem NMap.same (h : NMap W b n f) (he : W'.heap[b]? = W.heap[b]?) : NMap W' b n f := by
  obtain ⟨D, ⟨es, clock, h1, h2, h3⟩, h4⟩ := h
  exact ⟨D, ⟨es, clock, he.trans h1, h2, h3⟩, h4⟩
theorem NMap.setCell (h : NMap W b n f) {a : Addr} (ha : b ≠ a.block) (u : Value) : NMap (W.setCell a u) b n f := h.same (Below.heap_setCell W a u b ha)
theorem NMap.after {B : Nat} (h : NMap W b n f) (hb : Below B W W') (hB : b < B) : NMap W' b n f := h.same (hb.block b hB)
theorem NMap.put {D : DataW Unit} {x v : Nat} (hx : (x : Int) ≤ 18446744073709551615) (hv : 0 < v) (h1 : W.ownsMap Try.prog 22 (plainElem (H := Unit) Try.prog 3) b n D)
    (h2 : ∀ x : Nat, (x : Int) ≤ 18446744073709551615 → D.atKey (.int .u64 x) (.lit (.int .i64 0)) = .lit (.int .i64 (f x)) ∧ (has D (.int .u64 x) = true ↔ 0 < f x))
    {W' : World} {m : Nat} (h3 : W'.ownsMap Try.prog 22 (plainElem (H := Unit) Try.prog 3) b m (D.put (.int .u64 x) (.lit (.int .i64 v)))) : NMap W' b m (upd f x v) := by
  have hk : WideAt.IsKeyLit (.int .u64 x) := by simp [WideAt.IsKeyLit]
  refine ⟨_, h3, fun y hy => ?_⟩
  unfold upd
  by_cases e : y = x
  · subst e
    rw [atKey_put_same h1.isMap hk, has_put_same h1.isMap hk, if_pos rfl]
    exact ⟨rfl, by simp [hv]⟩
  · have hne : Lit.int .u64 (y : Int) ≠ Lit.int .u64 (x : Int) := fun h => by injection h with _ h; exact e (by omega)
    rw [atKey_put_other hne, has_put_other hne, if_neg e]
    exact h2 y hy
theorem NMap.made (W : World) : NMap (W.alloc (.map #[] 0)) W.heap.size 0 (fun _ => 0) := ⟨_, World.ownsMap_made W _ _ _, fun x _ => ⟨rfl, by simp [has]⟩⟩
theorem NMap.look (h : NMap W b n f) {t : TypeId} (ht : Try.prog.underlying t = some (.map 22 3)) {x : Nat} (hx : (x : Int) ≤ 18446744073709551615) :
    (Instr.lookup t (.map (some b)) (.int .u64 x) false).run Try.prog W = .ok (.int .i64 (f x)) W := by
  obtain ⟨D, h1, h2⟩ := h
  obtain ⟨c, hrun, hat, _⟩ := h1.lookup_int keyedU ht Try.underlying3 (Try.zeroValue3 _) (keyU hx)
  rewrite [(h2 x hx).1] at hat
  have e : (f x : Int) = c := by simpa using hat
  rewrite [hrun, ← e]
  rfl
end

section
variable {F : Fence} {nF : Nat} {w : World} {ops : Array Oper} {rest : List Oper} {o : Oper} {a : Act} {Q : Exit → Act → World → Prop}
/-- A store into such a map, in a walk inside a fence. -/
theorem wpListIn_put_N (hg : o.guard = none) (m x v : Operand) (t : TypeId) (hop : o.op = Op.mapUpdate t m x v) (ht : Try.prog.underlying t = some (.map 22 3)) (b n : Nat) (f : Nat → Nat)
    (hN : NMap w b n f) (hm : a.eval m = .map (some b)) (hn : n < maxLen) (x' : Nat) (v' : Int) (y : Nat) (hx : a.eval x = .int .u64 x') (hv : a.eval v = .int .i64 v') (hy : v' = y) (hb : (x' : Int) ≤ 18446744073709551615) (h0 : 0 < y) (h1 : (y : Int) ≤ 9223372036854775807)
    (hK : ∀ w', NMap w' b (n + 1) (upd f x' y) → w.grownBy w' (some b) → wpListIn F nF Try.prog ops Q rest (a.put o.dst undef) w') : wpListIn F nF Try.prog ops Q (o :: rest) a w := by
  subst hy
  have hN' := hN
  obtain ⟨D, h1', h2'⟩ := hN'
  refine wpListIn_mapUpdate_own w hg m x v t hop _ _ keyedU ht (plainElem (H := Unit) Try.prog 3) b n D hm h1' hn _ _ _ hx hv (keyU hb) _ [] (plainElem_int Try.underlying3 (wfi h1)) fun w' hw hgr => ?_
  exact hK w' (NMap.put hb h0 h1' h2' hw) hgr
theorem wpList_put_N (hg : o.guard = none) (m x v : Operand) (t : TypeId) (hop : o.op = Op.mapUpdate t m x v) (ht : Try.prog.underlying t = some (.map 22 3)) (b n : Nat) (f : Nat → Nat)
    (hN : NMap w b n f) (hm : a.eval m = .map (some b)) (hn : n < maxLen) (x' : Nat) (v' : Int) (y : Nat) (hx : a.eval x = .int .u64 x') (hv : a.eval v = .int .i64 v') (hy : v' = y) (hb : (x' : Int) ≤ 18446744073709551615) (h0 : 0 < y) (h1 : (y : Int) ≤ 9223372036854775807)
    (hK : ∀ w', NMap w' b (n + 1) (upd f x' y) → w.grownBy w' (some b) → wpList Try.prog ops Q rest (a.put o.dst undef) w') : wpList Try.prog ops Q (o :: rest) a w := by
  subst hy
  have hN' := hN
  obtain ⟨D, h1', h2'⟩ := hN'
  refine wpList_mapUpdate_own w hg m x v t hop _ _ keyedU ht (plainElem (H := Unit) Try.prog 3) b n D hm h1' hn _ _ _ hx hv (keyU hb) _ [] (plainElem_int Try.underlying3 (wfi h1)) fun w' hw hgr => ?_
  exact hK w' (NMap.put hb h0 h1' h2' hw) hgr
end
end Go.Proofs.Ytnokhajjcjfbpaa
