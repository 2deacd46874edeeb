/- The reader of bytes, continued: hashes. -/
import Derived.Test.YtjnlnkfpdlfkcaaByK
import Derived.Laws.CopyOwn
import Derived.Deep.MidRow
import Derived.Deep.Cut
import Derived.Deep.RegionHeld3
namespace Go.Proofs.Ytjnlnkfpdlfkcaa
open Go.RowKit Go.Lib

theorem Chg.then {g : Nat} {a b c : World} (h : Chg g a b) (hg : g < a.heap.size) (k : Below a.heap.size b c) : Chg g a c :=
  ⟨fun w0 B hB h0 => (h.bel w0 B hB h0).trans (k.mono (by omega)), Nat.le_trans h.size k.size, fun x hx hne => (k.block x hx).trans (h.block x hx hne)⟩

theorem bel_setCells {B b : Nat} {w0 : World} (hb : B ≤ b) : ∀ (vs : List Value) (o : Nat) {w : World}, Below B w0 w → Below B w0 (w.setCells b o vs)
  | [], _, _, h => h
  | v :: vs, o, _, h => bel_setCells hb vs (o + 1) (h.setCell hb v)

theorem hash_tail {wr : World} {g : Nat} (cs : Array Value) (hs : cs.size = 32) (h1 : cs.all (·.oneCell') = true) (h : IsBlk wr g 39 cs) :
    wr.rangeAt g 0 cs.toList ∧ wr.there g 0 cs.size ∧ (Try.prog.info? 39).map (·.size) = some cs.size := by
  refine ⟨fun j v hv => by rw [Nat.zero_add, h.cell]; simpa using hv, fun j hj => ?_, by rw [hs]; kernel_rfl⟩
  rw [Nat.zero_add, h.cell, Array.getElem?_eq_getElem hj]
  refine ⟨?_, h.free j⟩
  simp

def zl : List Value := byteCells (List.replicate 32 0)
theorem zl_one : zl.toArray.all (·.oneCell') = true := Array.all_eq_true_iff_forall_mem.2 (fun v hv => oneCells (List.replicate 32 0) v (List.mem_toArray.1 hv))
theorem zl_length : zl.length = 32 := rfl
theorem zeros_def : (#[.int .u8 0, .int .u8 0, .int .u8 0, .int .u8 0, .int .u8 0, .int .u8 0, .int .u8 0, .int .u8 0, .int .u8 0, .int .u8 0, .int .u8 0, .int .u8 0, .int .u8 0, .int .u8 0, .int .u8 0, .int .u8 0, .int .u8 0, .int .u8 0, .int .u8 0, .int .u8 0, .int .u8 0, .int .u8 0, .int .u8 0, .int .u8 0, .int .u8 0, .int .u8 0, .int .u8 0, .int .u8 0, .int .u8 0, .int .u8 0, .int .u8 0, .int .u8 0] : Array Value) = zl.toArray := rfl

set_option maxHeartbeats 2000000 in
theorem take_exact (g c : Nat) (A : Option Addr) (l : List UInt8) (n : Nat) (w : World) (h1 : IsBlk w g 36 #[.slice A l.length c, .bool true, .bool false]) (h2 : l.length ≤ c) (h3 : Rd w A l) (h4 : A = none → c = 0) (h5 : ∀ ad : Addr, A = some ad → ad.block ≠ g) (hl : l.length ≤ 1000000000) (hn : n ≤ l.length) :
    Calls Try.prog 15 #[.pointer (some ⟨g, 0, none⟩), .int .i64 n] w fun e w' => e = .returned (.slice A n n) ∧ w' = w.setCell ⟨g, 0, none⟩ (.slice (if c = n then A else A.map (·.add n)) (l.length - n) (c - n)) := by
  have C := Lib.hid (may_live g l n w ⟨A, c, h1, h2, h3, h4, h5⟩ hl)
  have e1 : (decide ((0 : Int) ≤ n) && decide ((n : Int) ≤ l.length)) = true := by simp [hn]
  rw [e1] at C
  have r0 := h1.cell 0
  simp at r0
  have fr := h1.free
  have lt := h1.lt
  clear e1 h1 h3 h4 h5
  go_enter Try.func15, Try.ntmps15
  go_wp2_with fail
  refine C.out.mono ?_
  rintro e w' ⟨rfl, rfl⟩
  go_wp2_with fail
  · have hcn : c = n := by assumption
    go_ret
    refine ⟨rfl, ?_⟩
    first | rfl | rw [if_pos hcn, hcn, Nat.sub_self]
  · have hcn : ¬ c = n := by assumption
    go_ret
    refine ⟨rfl, ?_⟩
    first | rfl | rw [if_neg hcn]

set_option maxRecDepth 100000 in
set_option maxHeartbeats 4000000 in
theorem hash_yes (g : Nat) (l : List UInt8) (w : World) (h : Live w g l) (hl : l.length ≤ 1000000000) (hn : 32 ≤ l.length) :
    Calls Try.prog 16 #[.pointer (some ⟨g, 0, none⟩)] w (NumRet (.agg (byteCells (l.take 32)).toArray) g (l.drop 32) w) := by
  have HG := Lib.hid h.lt
  obtain ⟨A, c, h1, h2, h3, h4, h5⟩ := h
  have C := Lib.hid (fun w' (a1 : IsBlk w' g 36 #[.slice A l.length c, .bool true, .bool false]) (a3 : Rd w' A l) => take_exact g c A l 32 w' a1 h2 a3 h4 h5 hl hn)
  have ht : (l.take 32).length = 32 := by rw [List.length_take]; omega
  have hz0 : IsBlk _ w.heap.size 39 zl.toArray := (IsBlk.new w 39 zl.toArray).drew
  have hr0 : IsBlk (w.alloc (.cells zl.toArray 39)).drew g 36 #[.slice A l.length c, .bool true, .bool false] := (h1.alloc _).drew
  have hd0 : Rd (w.alloc (.cells zl.toArray 39)).drew A l := (h3.alloc _).drew
  have hne : w.heap.size ≠ g := by have := HG.out; omega
  -- what the call leaves
  have hz1 := (((IsBlk.new w 39 zl.toArray).far (p := ⟨g, 0, none⟩) hne (.slice (if c = 32 then A else A.map (·.add 32)) (l.length - 32) (c - 32))).drew)
  have hr1 := hr0.put 0 (.slice (if c = 32 then A else A.map (·.add 32)) (l.length - 32) (c - 32))
  have hd1 := ((h3.alloc (.cells zl.toArray 39)).setCell (q := ⟨g, 0, none⟩) h5 (.slice (if c = 32 then A else A.map (·.add 32)) (l.length - 32) (c - 32))).drew
  have hch : Chg g w ((w.alloc (.cells zl.toArray 39)).drew.setCell ⟨g, 0, none⟩ (.slice (if c = 32 then A else A.map (·.add 32)) (l.length - 32) (c - 32))) :=
    (Chg.below HG.out ((Below.refl _ _).alloc (Nat.le_refl _) _).drew).trans (Chg.set _ _ _ _)
  have HR0 := Lib.hid hr0
  have HD0 := Lib.hid hd0
  have HZ1 := Lib.hid hz1
  have HR1 := Lib.hid hr1
  have HD1 := Lib.hid hd1
  have HCH := Lib.hid hch
  have H2 := Lib.hid h2
  have H3 := Lib.hid h3
  have H4 := Lib.hid h4
  have H5 := Lib.hid h5
  have HN := Lib.hid hn
  have HT := Lib.hid ht
  clear h1 h2 h3 h4 h5 hl hn ht hz0 hr0 hd0 hz1 hr1 hd1 hch hne
  generalize hX : Value.slice (if c = 32 then A else A.map (·.add 32)) (l.length - 32) (c - 32) = X at *
  have HX := Lib.hid hX
  clear hX
  go_enter Try.func16, Try.ntmps16
  go_wp2_with fail
  rw [zeros_def]
  have hbl : (byteCells (l.take 32)).length = 32 := by rw [byteCells_length, HT.out]
  have F1 := Lib.hid (show (byteCells (l.take 32)).length = Nat.min 32 32 from hbl)
  have F2 := Lib.hid (show 0 < (byteCells (l.take 32)).length → (∃ ad, A = some ad ∧ ∀ j v, (byteCells (l.take 32))[j]? = some v → (((w.alloc (.cells zl.toArray 39)).setCell ⟨g, 0, none⟩ X).drew).cell? (ad.add j) = some v) from fun hp => by
    have hd := HD1.out.take 32
    obtain ⟨ad, hA, _⟩ := hd (by rw [HT.out]; omega)
    refine ⟨ad, hA, ?_⟩
    rw [hA] at hd
    exact hd.news)
  have F3 := Lib.hid (show 0 + (byteCells (l.take 32)).length ≤ zl.length from by rw [hbl, zl_length]; omega)
  have F4 := Lib.hid (show Below w.heap.size (((w.alloc (.cells zl.toArray 39)).setCell ⟨g, 0, none⟩ X).drew) (((w.alloc (.cells zl.toArray 39)).setCell ⟨g, 0, none⟩ X).drew) from Below.refl _ _)
  clear hbl
  go_region_held3 (fun _ => True) (trivial) (first | (go_at_call 15; refine (C.out _ HR0.out HD0.out).mono ?_; rintro e w1 ⟨rfl, rfl⟩) | (refine step_copy_splice rfl (.tmp 3) (.tmp 5) 22 22 rfl 5 Try.underlying22 (by kernel_rfl) (some ⟨w.heap.size, 0, none⟩) A 32 32 32 32 rfl rfl w.heap.size 0 zl 39 HZ1.out (byteCells (l.take 32)) F1.out (fun hp => ⟨rfl, F2.out hp⟩) F3.out (oneCells _) w.heap.size _ F4.out (Nat.le_refl _) ?_; intro w2 hblk hbel))
  have hbl : (byteCells (l.take 32)).length = 32 := by rw [byteCells_length, HT.out]
  have hsp : splice zl 0 (byteCells (l.take 32)) = byteCells (l.take 32) := by
    unfold splice
    rw [hbl, List.drop_of_length_le (by rw [zl_length]; omega)]
    simp
  have hb2 := hblk.out
  rw [hsp] at hb2
  have hH : IsBlk w2 w.heap.size 39 (byteCells (l.take 32)).toArray := hb2
  have hR2 : IsBlk w2 g 36 #[X, .bool true, .bool false] := (HR1.out : IsBlk _ g _ _).below hbel HG.out
  have hC2 : Chg g w w2 := HCH.out.then HG.out hbel
  have mkL : ∀ w', Chg g w w' → IsBlk w' g 36 #[X, .bool true, .bool false] → Live w' g (l.drop 32) := by
    intro w' hC2 hR2
    refine ⟨if c = 32 then A else A.map (·.add 32), c - 32, by rw [List.length_drop, HX.out]; exact hR2, by rw [List.length_drop]; have := H2.out; omega, ?_, fun h => ?_, fun ad h => ?_⟩
    · have h3 : Rd w' A l := H3.out.keep hC2.size fun ad e p hp hl => World.cell?_of_block (hC2.block p.block hl (by rw [hp]; exact H5.out ad e))
      exact h3.drop H2.out
    · by_cases hc : c = 32
      · omega
      · rw [if_neg hc] at h
        have := H4.out (by simpa using h)
        omega
    · by_cases hc : c = 32
      · rw [if_pos hc] at h
        exact H5.out ad h
      · rw [if_neg hc] at h
        obtain ⟨ad', h1, rfl⟩ := Option.map_eq_some_iff.1 h
        rw [addr_block]
        exact H5.out ad' h1
  have hall : (byteCells (l.take 32)).toArray.all (·.oneCell') = true := Array.all_eq_true_iff_forall_mem.2 (fun v hv => oneCells (l.take 32) v (List.mem_toArray.1 hv))
  have HMK := Lib.hid mkL
  have HC2 := Lib.hid hC2
  have HR2 := Lib.hid hR2
  have hbs : (byteCells (l.take 32)).toArray.size = 32 := by simpa using hbl
  clear hbl hsp hb2 hR2 hC2 mkL hblk hbel
  generalize (byteCells (l.take 32)).toArray = bs at *
  obtain ⟨hr, ht, hz⟩ := hash_tail bs hbs hall hH
  clear hH hbs
  go_upto_region 2 with (fail)
  refine wp_region_list ?_
  refine wpList_load_mid rfl 39 _ rfl w.heap.size 0 rfl bs.toList _ hr Try.underlying39 rfl (by simpa using hz) ?_
  refine wpList_store_mid rfl 39 _ _ rfl w.heap.size 0 bs rfl rfl ht hz hall ?_
  have hr2 := World.rangeAt_setCells_same w2 _ 0 _ (by rw [Array.length_toList]; exact ht)
  have hlv : (loadVar 39 ⟨w.heap.size, 0, none⟩).run Try.prog (w2.setCells w.heap.size 0 bs.toList) = .ok (.agg bs) (w2.setCells w.heap.size 0 bs.toList) := by
    simpa using run_loadVar_mid (P := Try.prog) _ _ 0 39 _ _ hr2 Try.underlying39 rfl (by simpa using hz)
  have hB3 : Below w.heap.size w2 (w2.setCells w.heap.size 0 bs.toList) := bel_setCells (Nat.le_refl _) _ _ ((Below.refl _ _).mono HC2.out.size)
  have HF := Lib.hid (And.intro (HMK.out _ (HC2.out.then HG.out hB3) (HR2.out.below hB3 HG.out)) (HC2.out.then HG.out hB3))
  generalize w2.setCells w.heap.size 0 bs.toList = wz at *
  clear hr2 hr ht hz hB3 HC2 HR2 HMK
  go_wp2_with fail
  exact bodyPost_ret (v := .agg bs) (by simp [results, Try.results16, asAddr, Act.put, hlv]) rfl ⟨rfl, HF.out⟩

theorem Dead.below {w w' : World} {p : Option Addr} {B : Nat} (h : Dead w p) (hb : Below B w w') (hp : ∀ g, p = some ⟨g, 0, none⟩ → g < B) : Dead w' p := by
  rcases h with h | ⟨g, A, n, c, made, torn, rfl, h1, h2⟩
  · exact .inl h
  · exact .inr ⟨g, A, n, c, made, torn, rfl, h1.below hb (hp g rfl), h2⟩
theorem ChgP.then {p : Option Addr} {a b c : World} (h : ChgP p a b) (hp : ∀ g, p = some ⟨g, 0, none⟩ → g < a.heap.size) (k : Below a.heap.size b c) : ChgP p a c :=
  ⟨fun e => (h.1 e).trans k, fun g e => (h.2 g e).then (hp g e) k⟩

theorem hash_kept {p : Option Addr} {w w1 : World} (hp : ∀ g, p = some ⟨g, 0, none⟩ → g < w.heap.size) (h : ChgP p (w.alloc (.cells zl.toArray 39)).drew w1) (hd : Dead w1 p) : IsBlk w1 w.heap.size 39 zl.toArray ∧ w.heap.size ≤ w1.heap.size := by
  have h0 : IsBlk (w.alloc (.cells zl.toArray 39)).drew w.heap.size 39 zl.toArray := (IsBlk.new w 39 zl.toArray).drew
  rcases hd with rfl | ⟨g, A, n, c, made, torn, rfl, h1, h2⟩
  · have hb := h.1 rfl
    exact ⟨h0.after hb, Nat.le_trans (by simp [World.drew]) hb.size⟩
  · have hc := h.2 g rfl
    have := hp g rfl
    exact ⟨h0.chg hc (by omega), Nat.le_trans (by simp [World.drew]) hc.size⟩

set_option maxRecDepth 100000 in
set_option maxHeartbeats 4000000 in
theorem hash_torn (p : Option Addr) (w : World) (hp : ∀ g, p = some ⟨g, 0, none⟩ → g < w.heap.size)
    (h : Calls Try.prog 15 #[.pointer p, .int .i64 32] (w.alloc (.cells zl.toArray 39)).drew (TornRet (.slice none 0 0) p (w.alloc (.cells zl.toArray 39)).drew)) :
    Calls Try.prog 16 #[.pointer p] w (TornRet (.agg zl.toArray) p w) := by
  have C := Lib.hid h
  have HP := Lib.hid hp
  clear h hp
  go_enter Try.func16, Try.ntmps16
  go_wp2_with fail
  rw [zeros_def]
  go_region_held3 (fun _ => True) (trivial) (first | (go_at_call 15; refine C.out.mono ?_; rintro e w1 ⟨rfl, hd, hc⟩; have HZ1 := Lib.hid (show IsBlk w1 w.heap.size 39 zl.toArray ∧ w.heap.size ≤ w1.heap.size from hash_kept HP.out hc hd)) | (refine step_copy_splice rfl (.tmp 3) (.tmp 5) 22 22 rfl 5 Try.underlying22 (by kernel_rfl) (some ⟨w.heap.size, 0, none⟩) none 32 32 0 0 rfl rfl w.heap.size 0 zl 39 HZ1.out.1 [] rfl (fun hq => absurd hq (Nat.lt_irrefl 0)) (Nat.zero_le _) (fun u hu => absurd hu List.not_mem_nil) w.heap.size _ ((Below.refl _ _).mono HZ1.out.2) (Nat.le_refl _) ?_; intro w2 hblk hbel))
  have hz1 := HZ1.out
  have HSZ : w.heap.size ≤ w2.heap.size := Nat.le_trans hz1.2 hbel.size
  have hb2 := hblk.out
  rw [show splice zl 0 ([] : List Value) = zl from rfl] at hb2
  have hH : IsBlk w2 w.heap.size 39 zl.toArray := hb2
  obtain ⟨hr, ht, hz⟩ := hash_tail zl.toArray rfl zl_one hH
  have HD := Lib.hid (hd.below hbel HP.out)
  have HC := Lib.hid (show ChgP p w w2 from ⟨fun e => by
    have h1 := hc.1 e
    exact (((Below.refl w.heap.size w).alloc (Nat.le_refl _) _).drew.trans (h1.mono (by simp [World.drew]))).trans hbel, fun g e => ((Chg.below (HP.out g e) ((Below.refl _ _).alloc (Nat.le_refl _) _).drew).trans (hc.2 g e)).then (HP.out g e) hbel⟩)
  clear hH hb2 hblk hbel hd hc hz1 HZ1
  generalize hbs : zl.toArray = bs at *
  have hall : bs.all (·.oneCell') = true := by rw [← hbs]; exact zl_one
  go_upto_region 2 with (fail)
  refine wp_region_list ?_
  refine wpList_load_mid rfl 39 _ rfl w.heap.size 0 rfl bs.toList _ hr Try.underlying39 rfl (by simpa using hz) ?_
  refine wpList_store_mid rfl 39 _ _ rfl w.heap.size 0 bs rfl rfl ht hz hall ?_
  have hr2 := World.rangeAt_setCells_same w2 _ 0 _ (by rw [Array.length_toList]; exact ht)
  have hlv : (loadVar 39 ⟨w.heap.size, 0, none⟩).run Try.prog (w2.setCells w.heap.size 0 bs.toList) = .ok (.agg bs) (w2.setCells w.heap.size 0 bs.toList) := by
    simpa using run_loadVar_mid (P := Try.prog) _ _ 0 39 _ _ hr2 Try.underlying39 rfl (by simpa using hz)
  have hB3 : Below w.heap.size w2 (w2.setCells w.heap.size 0 bs.toList) := bel_setCells (Nat.le_refl _) _ _ ((Below.refl _ _).mono HSZ)
  have HF := Lib.hid (show Dead (w2.setCells w.heap.size 0 bs.toList) p ∧ ChgP p w (w2.setCells w.heap.size 0 bs.toList) from ⟨HD.out.below hB3 HP.out, HC.out.then HP.out hB3⟩)
  generalize w2.setCells w.heap.size 0 bs.toList = wz at *
  clear hr2 hr ht hz hB3 HD HC hbs
  go_wp2_with fail
  exact bodyPost_ret (v := .agg bs) (by simp [results, Try.results16, asAddr, Act.put, hlv]) rfl ⟨rfl, HF.out⟩
end Go.Proofs.Ytjnlnkfpdlfkcaa
