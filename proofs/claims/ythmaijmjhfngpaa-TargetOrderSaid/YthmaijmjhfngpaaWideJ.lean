/- Numbers of four words and their 32 bytes: the program's To and From. -/
import Derived.Test.YthmaijmjhfngpaaWideI
import Derived.Deep.MidRow
import Derived.Deep.Cut
namespace Go.Proofs.Ythmaijmjhfngpaa
open Go.RowKit

def bytesV (a : Nat) : Array Value := ((List.range 32).map fun j => Value.int .u8 (byN a j : Nat)).toArray
def FillB (f : Nat → Nat) (k : Nat) (cs : Array Value) : Prop := ∀ i, i < k → cs[i]? = some (.int .u8 (f i : Nat))
theorem FillB.next {f : Nat → Nat} {k : Nat} {cs : Array Value} (h : FillB f k cs) (hk : k < cs.size) : FillB f (k + 1) (cs.setIfInBounds k (.int .u8 (f k : Nat))) := by
  intro i hi
  rw [Array.getElem?_setIfInBounds]
  by_cases he : k = i
  · subst he; simp [hk]
  · rw [if_neg he]; exact h i (by omega)
theorem FillB.all {a : Nat} {cs : Array Value} (h : FillB (byN a) 32 cs) (hs : cs.size = 32) : cs = bytesV a := by
  apply Array.ext_getElem?
  intro i
  by_cases hi : i < 32
  · rw [h i hi]; simp [bytesV, hi]
  · rw [Array.getElem?_eq_none (by omega), Array.getElem?_eq_none (by simp [bytesV]; omega)]

theorem byte_val (a : Nat) {k m : Nat} (hm : m < 8) : IntKind.u8.wrap (((wd a k : Nat) : Int) / 2 ^ (8 * m)) = ((byN a (8 * k + m) : Nat) : Int) := by
  have e2 : ((wd a k : Nat) : Int) / 2 ^ (8 * m) = ((wd a k / 2 ^ (8 * m) : Nat) : Int) := by
    have : (2 : Int) ^ (8 * m) = ((2 ^ (8 * m) : Nat) : Int) := by rw [Int.natCast_pow]; rfl
    rw [this]; rfl
  rw [e2, ← byte_word a k m hm]
  generalize wd a k / 2 ^ (8 * m) = z
  simp only [IntKind.wrap, IntKind.bits, IntKind.signed]; simp
theorem word_cell {w : World} {g : Nat} {t : TypeId} {a : Nat} (h : IsBlk w g t #[.int .u64 (wd a 0 : Nat), .int .u64 (wd a 1 : Nat), .int .u64 (wd a 2 : Nat), .int .u64 (wd a 3 : Nat)]) {k : Nat} (hk : k < 4) : w.cell? ⟨g, k, none⟩ = some (.int .u64 (wd a k : Nat)) := by
  have h4 : k = 0 ∨ k = 1 ∨ k = 2 ∨ k = 3 := by omega
  rcases h4 with rfl | rfl | rfl | rfl <;> (rw [h.cell]; rfl)

theorem bel_setCells {B b : Nat} {w0 : World} (hb : B ≤ b) : ∀ (vs : List Value) (o : Nat) {w : World}, Below B w0 w → Below B w0 (w.setCells b o vs)
  | [], _, _, h => h
  | v :: vs, o, _, h => bel_setCells hb vs (o + 1) (h.setCell hb v)

end Go.Proofs.Ythmaijmjhfngpaa
