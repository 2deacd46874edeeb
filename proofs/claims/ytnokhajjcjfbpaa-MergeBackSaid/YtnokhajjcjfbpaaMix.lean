/- A region that draws its order and holds calls whose results hang on the world: what reads is taken first, the calls as they wait for one another; the condition on the world may grow behind each call. No program in sight. -/
import Derived.OrdersHeld
import Derived.KernelRfl
import Derived.Below
namespace Go.Proofs.Ytnokhajjcjfbpaa
open Go Go.RowKit

def opAt : List Oper → Nat → Option Oper
  | [], _ => none
  | o :: _, 0 => some o
  | _ :: os, n + 1 => opAt os n
theorem opAt_eq : ∀ (l : List Oper) (i : Nat), opAt l i = l[i]?
  | [], _ => rfl
  | _ :: _, 0 => rfl
  | _ :: os, n + 1 => by rw [opAt, opAt_eq os n]; rfl

section
variable {P : Program} {ops : Array Oper} {Q : Exit → Act → World → Prop} {S : World → Prop}

def Held (P : Program) (ops : Array Oper) (Q : Exit → Act → World → Prop) (S : World → Prop) (fuel : Nat) (listed : Array Bool) (a : Act) : Prop := ∀ w, S w → wpAnyH P .any ops Q S fuel listed a w
def takeOK (ops : Array Oper) (listed : Array Bool) (i : Nat) : Bool := Region.noSelect ops && Region.free .any ops listed i && (Region.ready .any ops listed).contains i

theorem wpAnyH_mono {S' : World → Prop} (hs : ∀ w, S' w → S w) : ∀ (fuel : Nat) (listed : Array Bool) (a : Act) (w : World), wpAnyH P .any ops Q S' fuel listed a w → wpAnyH P .any ops Q S fuel listed a w
  | 0, _, _, _, h => h
  | fuel + 1, _, _, _, h => ⟨h.1, fun i hi => wpOp_mono (fun a' w' h' => ⟨hs w' h'.1, wpAnyH_mono hs fuel _ a' w' h'.2⟩) (h.2 i hi)⟩

theorem Held.start {id : Nat} {a : Act} {w : World} (n : Nat) (S : World → Prop) (hm : P.follows .mixedOrders = true) (hn : ops.size = n) (hS : S w.drew) (h : Held P ops Q S n (Array.replicate n false) a) : (Code.region id ops true).wp P Q a w := by
  subst hn
  exact wp_region_held hm (h w.drew hS)
theorem Held.take {i n : Nat} {o : Oper} {v : Value} {listed : Array Bool} {a : Act} (hi : opAt ops.toList i = some o) (hok : takeOK ops listed i = true) (hQ : ∀ c a w, Q (.panic c) (a.put o.dst v) w → Q (.panic c) a w)
    (hw : Region.wanted o (yielded ops a.tmps) = true) (hr : ∀ w, S w → (execOp a.eval o).run P w = .ok (.value v) w) (h : Held P ops Q S n (listed.setIfInBounds i true) (a.put o.dst v)) : Held P ops Q S (n + 1) listed a := by
  unfold takeOK at hok
  simp only [Bool.and_eq_true] at hok
  rw [opAt_eq, Array.getElem?_toList] at hi
  exact fun w hS => wpAnyH_take hi hok.1.1 hok.1.2 hok.2 hQ (Or.inl ⟨hw, hr⟩) hS (h w hS)
theorem Held.skip {i n : Nat} {o : Oper} {listed : Array Bool} {a : Act} (hi : opAt ops.toList i = some o) (hok : takeOK ops listed i = true) (hQ : ∀ c a w, Q (.panic c) (a.put o.dst undef) w → Q (.panic c) a w)
    (hw : Region.wanted o (yielded ops a.tmps) = false) (h : Held P ops Q S n (listed.setIfInBounds i true) (a.put o.dst undef)) : Held P ops Q S (n + 1) listed a := by
  unfold takeOK at hok
  simp only [Bool.and_eq_true] at hok
  rw [opAt_eq, Array.getElem?_toList] at hi
  exact fun w hS => wpAnyH_take hi hok.1.1 hok.1.2 hok.2 hQ (Or.inr ⟨hw, rfl⟩) hS (h w hS)
theorem Held.call {i n : Nat} {o : Oper} {f : FuncId} {args : Array Value} {listed : Array Bool} {a : Act} (hi : opAt ops.toList i = some o) (hrd : Region.ready .any ops listed = [i])
    (hw : Region.wanted o (yielded ops a.tmps) = true) (hr : ∀ w, S w → (execOp a.eval o).run P w = .ok (.enter f args) w)
    (hc : ∀ w, S w → Calls P f args w fun e w' => ∃ v, e = .returned v ∧ ∃ S' : World → Prop, S' w' ∧ (∀ w, S' w → S w) ∧ Held P ops Q S' n (listed.setIfInBounds i true) (a.put o.dst v)) : Held P ops Q S (n + 1) listed a := by
  rw [opAt_eq, Array.getElem?_toList] at hi
  intro w hS
  refine wpAnyH_all hrd (by simp) fun j hj => ?_
  simp only [List.mem_singleton] at hj
  subst hj
  unfold wpOp
  simp only [hi]
  rw [if_pos hw]
  refine .inl ?_
  unfold Oper.wp
  rw [hr w hS]
  refine Calls.mono (hc w hS) ?_
  rintro e w' ⟨v, rfl, S', h1, h2, h3⟩
  exact ⟨h2 w' h1, wpAnyH_mono h2 _ _ _ _ (h3 w' h1)⟩
theorem Held.done {n : Nat} {listed : Array Bool} {a : Act} (hrd : Region.ready .any ops listed = []) (h : ∀ w, S w → Q .normal a w) : Held P ops Q S n listed a := fun w hS => wpAnyH_done hrd (h w hS) n
end

/-- A later world: nothing that was there has turned. -/
def Ext (w w' : World) : Prop := Below w.heap.size w w'
theorem Ext.refl (w : World) : Ext w w := Below.refl _ _
theorem Ext.bel {w w' : World} (h : Ext w w') : Below w.heap.size w w' := h
theorem Ext.on {a b c : World} (h : Ext a b) (k : Ext b c) : Ext a c := Below.trans h (Below.mono k (Below.size h))
end Go.Proofs.Ytnokhajjcjfbpaa
