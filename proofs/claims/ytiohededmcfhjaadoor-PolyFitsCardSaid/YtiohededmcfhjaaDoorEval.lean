/- slices.Backward at []int as an iterator; the walk of poly.Eval. After the guide's own text on slices.All. -/
import Derived.Test.YtiohededmcfhjaaDoorFw4
import Derived.Test.YtiohededmcfhjaaDoorRound
import Derived.RangeFuncNested
import Derived.RangeFuncBound
import Derived.RangeFuncCalls
import Derived.RangeFuncLeaves
import Derived.RangeFuncBox
import Derived.Shelf.Abstract
import Derived.Shelf.RegionOpen
import Derived.WalkKit
import Derived.OwnWalkIn
import Derived.TacticsInMore
import Derived.LoopNIn
import Derived.LoopIn
set_option linter.unusedVariables false
namespace Go.Proofs.YtiohededmcfhjaaDoor
open Go.RowKit Go.Shelf Zp
attribute [local go_sem] Oper.semAt_some

abbrev Int64' := { n : Int // I64 n }
/-- what has come when k rounds are over -/
def upto {α : Type} (f : Nat → α) (k : Nat) : List α := (List.range k).map f
theorem upto_succ {α : Type} (f : Nat → α) (k : Nat) : upto f (k + 1) = upto f k ++ [f k] := by simp [upto, List.range_succ]
theorem upto_length {α : Type} (f : Nat → α) (k : Nat) : (upto f k).length = k := by simp [upto]

/-- the pairs that come, from the last place on -/
def backF (zs : List Int64') (j : Nat) : Nat × Int64' := (zs.length - 1 - j, zs[zs.length - 1 - j]?.getD ⟨0, by constructor <;> omega⟩)

/-- below block n₀ but for block g nothing turns -/
def KeepBut (n₀ g : Nat) (A B : World) : Prop := ∀ k, k < n₀ → k ≠ g → B.heap[k]? = A.heap[k]?
theorem KeepBut.refl (n₀ g : Nat) (A : World) : KeepBut n₀ g A A := fun _ _ _ => rfl
theorem KeepBut.trans {n₀ g : Nat} {A B C : World} (h : KeepBut n₀ g A B) (k : KeepBut n₀ g B C) : KeepBut n₀ g A C := fun j hj hn => (k j hj hn).trans (h j hj hn)
theorem KeepBut.cell {n₀ g : Nat} {A B : World} (h : KeepBut n₀ g A B) {p : Addr} (hp : p.block < n₀) (hg : p.block ≠ g) : B.cell? p = A.cell? p := World.cell?_of_block (h _ hp hg)
theorem KeepBut.reads {n₀ n₁ g size n : Nat} {A B : World} {a : Option Addr} {xs : List Value} (h : KeepBut n₀ g A B) (h0 : n₁ ≤ n₀) (hg : n₁ ≤ g) (hr : Reads A n₁ size a n xs) : Reads B n₁ size a n xs :=
  hr.keep fun p hp => h.cell (by omega) (by omega)
theorem KeepBut.setCell {n₀ g : Nat} {A B : World} (h : KeepBut n₀ g A B) {p : Addr} (hp : p.block = g) (u : Value) : KeepBut n₀ g A (B.setCell p u) :=
  fun k hk hn => (Below.heap_setCell B p u k (by omega)).trans (h k hk hn)
theorem KeepBut.drewN {n₀ g : Nat} {A B : World} (h : KeepBut n₀ g A B) (m : Nat) : KeepBut n₀ g A (B.drewN m) := h
theorem KeepBut.drew {n₀ g : Nat} {A B : World} (h : KeepBut n₀ g A B) : KeepBut n₀ g A B.drew := h
theorem KeepBut.put {n₀ g B : Nat} (hB : n₀ ≤ B) (W : World) (l : Nat) (o o' : Obj) (hl : B ≤ l) (_ : W.heap[l]? = some o) (_ : o.isCells = false) (_ : o.isWalk = false) : KeepBut n₀ g W (W.putObj l o') :=
  fun k hk hn => by
    have h : k ≠ l := by omega
    simp [World.putObj, Ne.symm h]

set_option maxRecDepth 100000 in
set_option maxHeartbeats 2000000 in
theorem backward1_in (F : Fence) (n : Nat) (hf : F.fn 60) (hro : F.round = none) (hn : 1 ≤ n) (l Bs n₀ n₁ g : Nat) (hn1 : n₁ ≤ n₀) (hg : n₁ ≤ g) (hBg : Bs ≠ g) (A : Option Addr) (cap : Nat) (zs : List Int64') (hreach : zs.length * 8 ≤ 140737488351232)
    (J Jx : List (Nat × Int64') → World → Prop)
    (hY : ∀ pre x W, J pre W → pre.length < zs.length → YieldAt F (n - 1) Tryd.prog l #[.int .i64 (x.1 : Int), .int .i64 x.2.1] W fun e W' =>
      (e = .returned (.bool true) ∧ J (pre ++ [x]) W' ∧ KeepBut n₀ g W W') ∨ (e = .returned (.bool false) ∧ Jx (pre ++ [x]) W'))
    (W : World) (hBs : W.cell? ⟨Bs, 0, none⟩ = some (.slice A zs.length cap)) (hBl : Bs < n₀) (hc : Reads W n₁ 1 A zs.length ((zs.map Subtype.val).map vi)) (h0 : J [] W) :
    CallsIn F n Tryd.prog 60 #[.func (.yield l) #[] #[], .pointer (some ⟨Bs, 0, none⟩)] W fun e W' => (∃ v, e = .returned v) ∧
      ((∃ ys, ys = upto (backF zs) zs.length ∧ J ys W') ∨ (∃ pre, (∃ k, k ≤ zs.length ∧ pre = upto (backF zs) k) ∧ Jx pre W')) := by
  refine callsIn_of_wp Tryd.func60 rfl hf ?_ hro
  simp only [Tryd.ntmps60, List.size_toArray, List.length_cons, List.length_nil, Nat.reduceAdd, Nat.reduceSub, Array.replicate_succ, Array.replicate_zero, List.push_toArray, List.append_toArray, List.nil_append, List.cons_append]
  obtain ⟨len, hlen⟩ : ∃ len, len = zs.length := ⟨_, rfl⟩
  rw [← hlen] at hreach hBs ⊢
  have HL := Lib.hid hlen
  clear hlen
  gi_wp2
  gi_loopw [3] (fun i wr => ∃ k : Nat, k ≤ len ∧ i = .int .i64 ((len : Int) - 1 - k) ∧ J (upto (backF zs) k) wr ∧ KeepBut n₀ g W wr)
    (fun i _ => (intOf i + 1).toNat)
  case atStart => exact ⟨0, Nat.zero_le _, by go_num, h0, KeepBut.refl _ _ _⟩
  case round =>
    obtain ⟨k, hk, rfl, hJs, hnx⟩ := hrel
    have hBs' : wr.cell? ⟨Bs, 0, none⟩ = some (.slice A len cap) := (hnx.cell (p := ⟨Bs, 0, none⟩) hBl hBg).trans hBs
    by_cases hlt : k < len
    · obtain ⟨fn, tmps, assign, body, hy, hR⟩ := hY _ (backF zs k) wr hJs (by rw [upto_length, ← HL.out]; exact hlt)
      have hkl : len - 1 - k < zs.length := by rw [← HL.out]; omega
      obtain ⟨ad, u, rfl, hab, hx, hcell⟩ := Reads.at_ (k := len - 1 - k) (hnx.reads hn1 hg hc) hkl
      rw [List.getElem?_map, List.getElem?_map, List.getElem?_eq_getElem hkl] at hx
      have hxe : backF zs k = (len - 1 - k, zs[len - 1 - k]) := by
        simp only [backF]
        rw [← HL.out, List.getElem?_eq_getElem hkl]; rfl
      rw [hxe] at hy hR
      have hu : u = vi (zs[len - 1 - k]).1 := by simpa using hx.symm
      rw [hu] at hcell
      have i1 : 0 ≤ (len : Int) - 1 - k := by omega
      have i2 : ((len : Int) - 1 - k).toNat = len - 1 - k := by omega
      have i3 : (((len - 1 - k : Nat)) : Int) = (len : Int) - 1 - k := by omega
      dsimp only at hy hR
      rw [i3] at hy
      have I2 := Lib.hid i2
      have HXE := Lib.hid hxe
      clear i2 i3 hxe hx hu
      gi_wp2
      refine hR.mono ?_
      rintro e W3 (⟨rfl, hJ3, hk3⟩ | ⟨rfl, hJx3⟩)
      · gi_wp2
        go_roundw
        case rel => exact ⟨k + 1, by omega, by go_num, by rw [upto_succ, HXE.out]; exact hJ3, hnx.trans hk3⟩
        case measure => simp [intOf]; omega
      · gi_wp2
        refine bodyPost_ret (results_none rfl _ _ _) rfl ?_
        exact ⟨⟨_, rfl⟩, .inr ⟨_, ⟨k + 1, by omega, by rw [upto_succ, HXE.out]⟩, hJx3⟩⟩
    · obtain rfl : k = len := by omega
      gi_wp2
      go_end0
      exact ⟨⟨_, rfl⟩, .inl ⟨_, rfl, hJs⟩⟩

set_option maxHeartbeats 1000000 in
theorem backward_any (a : Option Addr) (len cap : Nat) (w : World) :
    Calls Tryd.prog 52 #[.slice a len cap] w fun e w' => e = .returned (.func (.func 60) #[] #[.pointer (some ⟨w.heap.size, 0, none⟩)]) ∧ w' = w.alloc (.cells #[.slice a len cap] 22) := by
  go_enter Tryd.func52, Tryd.ntmps52
  go_wp2
  go_ret
  exact ⟨rfl, rfl⟩

/-- slices.Backward(s) hands back what stops -/
theorem backward_stops (F : Fence) (n : Nat) (hf : F.fn 60) (hro : F.round = none) (hn : 1 ≤ n) (Bs n₀ n₁ g : Nat) (hn1 : n₁ ≤ n₀) (hg : n₁ ≤ g) (hBg : Bs ≠ g) (A : Option Addr) (cap : Nat) (zs : List Int64') (hreach : zs.length * 8 ≤ 140737488351232) (w : World) (hBs : Bs < w.heap.size) (hBl : Bs < n₀) (hn₀ : n₀ ≤ w.heap.size)
    (hc : w.cell? ⟨Bs, 0, none⟩ = some (.slice A zs.length cap)) (hI : Reads w n₁ 1 A zs.length ((zs.map Subtype.val).map vi)) :
    SeqStopsK F n Tryd.prog 60 #[.pointer (some ⟨Bs, 0, none⟩)] (fun x : Nat × Int64' => #[Value.int .i64 (x.1 : Int), Value.int .i64 x.2.1]) (KeepBut n₀ g) (fun ys => ys = upto (backF zs) zs.length)
      (fun pre => ∃ k, k ≤ zs.length ∧ pre = upto (backF zs) k) zs.length w := fun l J Jx W hW _ _ hY h0 => by
  have hc' := (hW.cell (p := ⟨Bs, 0, none⟩) hBs).trans hc
  exact backward1_in F n hf hro hn l Bs n₀ n₁ g hn1 hg hBg A cap zs hreach J Jx hY W hc' hBl (hI.below (hW.mono (Nat.le_trans hn1 hn₀))) h0

/-- what Eval's sum is when some have come: 'pre' the pairs from the last place on -/
def evPre {p : Nat} [NeZero p] (pre : List (Nat × Int64')) (x : Fin p) : Fin p := pre.foldl (fun s y => s * x + el p y.2.1) 0
theorem evPre_snoc {p : Nat} [NeZero p] (pre : List (Nat × Int64')) (y : Nat × Int64') (x : Fin p) : evPre (pre ++ [y]) x = evPre pre x * x + el p y.2.1 := by simp [evPre]
theorem evPre_upto {p : Nat} [NeZero p] (zs : List Int64') (x : Fin p) (k : Nat) (hk : k ≤ zs.length) :
    evPre (upto (backF zs) k) x = ev ((zs.map (fun y => el p y.1)).drop (zs.length - k)) x := by
  induction k with
  | zero => rw [Nat.sub_zero, List.drop_eq_nil_of_le (by simp)]; rfl
  | succ k ih =>
    have hi : zs.length - (k + 1) < zs.length := by omega
    rw [upto_succ, evPre_snoc, ih (by omega), List.drop_eq_getElem_cons (i := zs.length - (k + 1)) (by simpa using hi)]
    rw [show zs.length - (k + 1) + 1 = zs.length - k from by omega]
    simp only [ev, List.getElem_map]
    have hb : (backF zs k).2 = zs[zs.length - (k + 1)] := by
      simp only [backF]
      rw [show zs.length - 1 - k = zs.length - (k + 1) from by omega, List.getElem?_eq_getElem hi]; rfl
    rw [hb]
    grind

/-- ints as the iterator hands them on -/
theorem exists_subtype (xs : List Int) (h : ∀ x ∈ xs, I64 x) : ∃ zs : List Int64', zs.map Subtype.val = xs := by
  induction xs with
  | nil => exact ⟨[], rfl⟩
  | cons x xs ih =>
    obtain ⟨zs, hz⟩ := ih (fun y hy => h y (by simp [hy]))
    exact ⟨⟨x, h x (by simp)⟩ :: zs, by simp [hz]⟩

set_option maxRecDepth 100000 in
set_option maxHeartbeats 4000000 in
theorem eval_sub (p : Nat) [NeZero p] (S b : Nat) (A : Option Addr) (cap : Nat) (zs : List Int64') (hreach : zs.length * 8 ≤ 140737488351232) (x : Int) (hx : I64 x) (w : World) (F : Fld w S b p) (hs : SL w A (zs.map Subtype.val)) :
    Calls Tryd.prog 35 #[.pointer (some ⟨b, 0, none⟩), .slice A zs.length cap, vi x] w fun e w' => e = .returned (vi (fv (ev (zs.map (fun y => el p y.1)) (el p x)))) ∧ Below w.heap.size w w' := by
  refine (callsIn_wide (n := 3)).1 ?_
  have hro : (Fence.wide).round = none := rfl
  have h1 : 1 ≤ 3 := by omega
  have hp2 := F.max
  refine callsIn_of_wp_marks Tryd.func35 rfl trivial ?_ hro
  simp only [Tryd.ntmps35, List.size_toArray, List.length_cons, List.length_nil, Nat.reduceAdd, Nat.reduceSub, Array.replicate_succ, Array.replicate_zero, List.push_toArray, List.append_toArray, List.nil_append, List.cons_append]
  gi_wp2_with (refine ⟨trivial, ?_⟩; gi_at_call 52; refine (callsIn_wide.2 (backward_any _ _ _ _)).mono ?_; rintro e w' ⟨rfl, rfl⟩)
  obtain ⟨W0, hW0⟩ : ∃ W0 : World, W0 = (((w.alloc (.cells #[.pointer (some ⟨b, 0, none⟩)] 23)).alloc (.cells #[vi x] 3)).alloc (.cells #[.int .i64 0] 3)).alloc (.cells #[.slice A zs.length cap] 22) := ⟨_, rfl⟩
  have hsz : W0.heap.size = w.heap.size + 4 := by rw [hW0]; simp
  have hbel : Below w.heap.size w W0 := by rw [hW0]; exact ((((Below.refl _ w).alloc (Nat.le_refl _) _).alloc (by simp) _).alloc (by simp; omega) _).alloc (by simp; omega) _
  have bF : Blk W0 w.heap.size 23 #[.pointer (some ⟨b, 0, none⟩)] := by rw [hW0]; exact (((Blk.new _ _ _).alloc _).alloc _).alloc _
  have bX : Blk W0 (w.heap.size + 1) 3 #[vi x] := by
    rw [hW0]; have := Blk.new (w.alloc (.cells #[.pointer (some ⟨b, 0, none⟩)] 23)) 3 #[vi x]
    rw [World.size_alloc] at this; exact (this.alloc _).alloc _
  have bS : Blk W0 (w.heap.size + 1 + 1) 3 #[.int .i64 0] := by
    rw [hW0]; have := Blk.new ((w.alloc (.cells #[.pointer (some ⟨b, 0, none⟩)] 23)).alloc (.cells #[vi x] 3)) 3 #[.int .i64 0]
    rw [World.size_alloc, World.size_alloc] at this; exact this.alloc _
  have bL : Blk W0 (w.heap.size + 1 + 1 + 1) 22 #[.slice A zs.length cap] := by
    rw [hW0]; have := Blk.new (((w.alloc (.cells #[.pointer (some ⟨b, 0, none⟩)] 23)).alloc (.cells #[vi x] 3)).alloc (.cells #[.int .i64 0] 3)) 22 #[.slice A zs.length cap]
    rw [World.size_alloc, World.size_alloc, World.size_alloc] at this; exact this
  rw [← hW0]
  clear hW0
  have hs' : Reads W0 w.heap.size 1 A zs.length ((zs.map Subtype.val).map vi) := by
    have := Reads.below hs hbel
    rwa [List.length_map] at this
  refine wpIn_rangeFunc_ownG hro h1 (gf := 60) (lb := #[.pointer (some ⟨w.heap.size + 1 + 1 + 1, 0, none⟩)]) rfl trivial (enters_of Tryd.func60 (by kernel_rfl) rfl)
    (backward_stops Fence.wide (3 - 1) trivial hro (by omega) (w.heap.size + 1 + 1 + 1) (w.heap.size + 4) w.heap.size (w.heap.size + 1 + 1) (by omega) (by omega) (by omega) A cap zs hreach W0 (by omega) (by omega) (by omega) (by rw [bL.cell]; rfl) hs')
    KeepBut.trans (KeepBut.put (by omega)) (Below.refl _ _) (fun _ => rfl)
    (fun pre W => (W.cell? ⟨w.heap.size + 1 + 1, 0, none⟩ = some (vi (fv (evPre pre (el p x)))) ∧ W.frozen? ⟨w.heap.size + 1 + 1, 0, none⟩ = false ∧ W.cell? ⟨w.heap.size, 0, none⟩ = some (.pointer (some ⟨b, 0, none⟩)) ∧ W.cell? ⟨w.heap.size + 1, 0, none⟩ = some (vi x)) ∧ Below w.heap.size w W)
    (fun _ _ _ => False)
    (OwnFrom.and (Own.from (fun s A B row hs hg hr => ⟨cell_kept hs.1 hg hr, (frozen_kept hs.1 hg hr).trans hs.2.1, cell_kept hs.2.2.1 hg hr, cell_kept hs.2.2.2 hg hr⟩) _) (ownFrom_below (Nat.le_refl _) (by omega)))
    (fun _ _ _ _ _ hs _ _ => hs)
    ⟨⟨by rw [bS.cell]; rfl, bS.frozen 0, by rw [bF.cell]; rfl, by rw [bX.cell]; rfl⟩, hbel⟩
    (fun y => { tmps := #[.pointer (some ⟨b, 0, none⟩), .slice A zs.length cap, vi x, .pointer (some ⟨w.heap.size, 0, none⟩), undef, .pointer (some ⟨w.heap.size + 1, 0, none⟩), .int .i64 0, .pointer (some ⟨w.heap.size + 1 + 1, 0, none⟩), undef, vi y.2.1, .slice A zs.length cap, .func (.func 60) #[] #[.pointer (some ⟨w.heap.size + 1 + 1 + 1, 0, none⟩)], vi y.1, vi y.2.1, undef, undef, undef, undef, undef, undef, undef, undef], defers := [] }) ?assign ?body ?done ?stop
  case assign =>
    intro l y W K hK
    gi_wp2
    exact hK
  case body =>
    rintro l pre y W ⟨⟨hc, hf, hcf, hcx⟩, hB⟩ _
    have hy := y.2.2
    have hc0 : W.cell? ⟨b, 0, none⟩ = some (vi p) := (hB.cell (p := ⟨b, 0, none⟩) (Nat.lt_of_lt_of_le F.lt F.le)).trans F.c0
    have i1 := i64_fv (evPre pre (el p x)) hp2
    have i2 := i64_fv (el p (fv (evPre pre (el p x))) * el p x) hp2
    have h1' : 1 ≤ 3 - 1 - 1 := by omega
    have hmx : Tryd.prog.follows .mixedOrders = true := by kernel_rfl
    gi_wp2
    refine wpIn_region_quiet_tail 7 hmx (by kernel_rfl) (by rintro ⟨_, _, h⟩; exact h) (by kernel_rfl) ?_
    simp only [List.take_succ_cons, List.take_zero, List.drop_succ_cons, List.drop_zero]
    repeat (quiet_step (first
      | (go_at_call 25; exact Calls.quiet_of (mul_any p hp2 b _ _ i1 hx _ (by exact hc0)))
      | (go_at_call 33; exact Calls.quiet_of (add_any p hp2 b _ _ i2 hy _ (by exact hc0)))))
    refine wpQuiet_nil ?_
    intro _ hw'
    obtain ⟨nq, hw''⟩ := hw'
    subst hw''
    go_wp2
    have hk1 : KeepsOthers W (W.drewN nq) := ⟨Nat.le_refl _, fun _ _ h _ => h⟩
    refine ⟨(hk1.trans (KeepsOthers.setCell _ _ _)).from _, ((KeepBut.refl _ (w.heap.size + 1 + 1) W).drewN nq).setCell (p := ⟨w.heap.size + 1 + 1, 0, none⟩) rfl _, ⟨?_, ?_, ?_, ?_⟩, (below_drewN hB nq).setCell (by simp; omega) _⟩
    · rw [evPre_snoc, el_fv, el_fv]
      exact World.cell?_setCell_same' _ _ _ (by rw [show (W.drewN nq).cell? ⟨w.heap.size + 1 + 1, 0, none⟩ = W.cell? ⟨w.heap.size + 1 + 1, 0, none⟩ from rfl, hc]; rfl)
    · rw [World.frozen?_setCell]; exact hf
    · rw [World.cell?_setCell_other _ _ _ _ (by simp)]; exact hcf
    · rw [World.cell?_setCell_other _ _ _ _ (by simp)]; exact hcx
  case done =>
    rintro D ys W hD rfl ⟨⟨hc, _⟩, hB⟩ hK
    gi_wp2
    refine ⟨by simp, .inl ⟨_, _, rfl, run_takeDeferred hK, ?_⟩⟩
    have he : evPre (upto (backF zs) zs.length) (el p x) = ev (zs.map (fun y => el p y.1)) (el p x) := by rw [evPre_upto zs _ _ (Nat.le_refl _), Nat.sub_self, List.drop_zero]
    rw [he]
    exact ⟨_, results_tmp rfl _ _ _, rfl, hB.trans (belowK_b (w := w) (Nat.le_refl _) W D _ _ (by omega) hK rfl rfl)⟩
  case stop =>
    rintro D c pre W _ _ h _
    exact h.elim

/-- poly.Eval: what a polynomial is at a point -/
theorem eval_any (p : Nat) [NeZero p] (S b : Nat) (A : Option Addr) (cap : Nat) (xs : List Int) (hxs : ∀ n ∈ xs, I64 n) (hreach : xs.length * 8 ≤ 140737488351232) (x : Int) (hx : I64 x) (w : World) (F : Fld w S b p) (hs : SL w A xs) :
    Calls Tryd.prog 35 #[.pointer (some ⟨b, 0, none⟩), .slice A xs.length cap, vi x] w fun e w' => e = .returned (vi (fv (ev (xs.map (el p)) (el p x)))) ∧ Below w.heap.size w w' := by
  obtain ⟨zs, rfl⟩ := exists_subtype xs hxs
  rw [List.length_map] at hreach ⊢
  have h := eval_sub p S b A cap zs hreach x hx w F hs
  rw [List.map_map]
  exact h
end Go.Proofs.YtiohededmcfhjaaDoor
