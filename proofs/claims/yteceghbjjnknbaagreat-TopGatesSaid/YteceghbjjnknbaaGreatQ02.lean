/- A bundle of texts: Mem, Fw1, App, Fw2, Fw3, Fw4, Mk, Ra, Deg, Trim, Round, Mul, Each, Rt, Dom, Spread. -/
import Derived.Below
import Derived.Laws.OwnMore
import Derived.Deep.AppendLies
import Derived.Deep.Draws
import Derived.Laws.Rows
import Derived.WalkKit
import Derived.Deep.OwnRows
import Derived.Lib.Hide
import Derived.Test.YteceghbjjnknbaaGreatChecked
import Derived.Test.YteceghbjjnknbaaGreatQ00
import Derived.Outline
import Derived.Deep.QuietTactic
import Derived.BigQuiet
import Derived.WalkLawsBesides
import Derived.WalkSpells
import Derived.Laws.BitsAllLaws
import Derived.Laws.BitsLemmas
import Derived.Maps.AppendAt
import Derived.RegionTactic
import Derived.OwnWalk
import Derived.Deep.LoopGhost
import Derived.Laws.MakeOwn
import Derived.StillTail
import Derived.StillTactics
import Derived.OrdersIn
import Derived.RangeFuncWrites
import Derived.RangeFuncCalls
import Derived.TacticsIn
import Derived.IntWalk
import Derived.Deep.RegionHeld3
set_option linter.unusedVariables false
set_option linter.unusedSimpArgs false
namespace Go.Proofs.YteceghbjjnknbaaGreat
open Go.RowKit
theorem block_of_add (a : Addr) (n : Nat) : (a.add n).block = a.block := by unfold Addr.add; split <;> rfl
theorem add_of_add (a : Addr) (i j : Nat) : (a.add i).add j = a.add (i + j) := by
  unfold Addr.add
  by_cases hi : i = 0 <;> by_cases hj : j = 0 <;> simp [hi, hj, Nat.add_assoc]
def Reads (w : World) (B size : Nat) (A : Option Addr) (n : Nat) (xs : List Value) : Prop :=
  xs.length = n * size ∧ (0 < n → ∃ ad, A = some ad ∧ ad.block < B ∧ ∀ j u, xs[j]? = some u → w.cell? (ad.add j) = some u)
section
variable {w w' : World} {B B' size n : Nat} {A : Option Addr} {xs : List Value}
theorem Reads.none_ : Reads w B size A 0 [] := ⟨by simp, fun h => absurd h (by omega)⟩
theorem Reads.at_ {k : Nat} (h : Reads w B 1 A n xs) (hk : k < n) : ∃ ad u, A = some ad ∧ ad.block < B ∧ xs[k]? = some u ∧ w.cell? (ad.add k) = some u := by
  obtain ⟨ad, e, hb, hc⟩ := h.2 (by omega)
  have hl : k < xs.length := by have := h.1; omega
  exact ⟨ad, xs[k], e, hb, List.getElem?_eq_getElem hl, hc k _ (List.getElem?_eq_getElem hl)⟩
theorem Reads.keep (h : Reads w B size A n xs) (hk : ∀ p : Addr, p.block < B → w'.cell? p = w.cell? p) : Reads w' B size A n xs :=
  ⟨h.1, fun hn => by
    obtain ⟨ad, e, hb, hc⟩ := h.2 hn
    exact ⟨ad, e, hb, fun j u hu => (hk _ (by rw [block_of_add]; exact hb)).trans (hc j u hu)⟩⟩
theorem Reads.more (h : Reads w B size A n xs) (hB : B ≤ B') : Reads w B' size A n xs :=
  ⟨h.1, fun hn => by
    obtain ⟨ad, e, hb, hc⟩ := h.2 hn
    exact ⟨ad, e, by omega, hc⟩⟩
theorem Reads.below (h : Reads w B size A n xs) (hb : Below B w w') : Reads w' B size A n xs := h.keep fun _ hp => hb.cell hp
theorem Reads.drew (h : Reads w B size A n xs) : Reads w.drew B size A n xs := h
theorem Reads.drewN (h : Reads w B size A n xs) (k : Nat) : Reads (w.drewN k) B size A n xs := h
theorem Reads.alloc (h : Reads w B size A n xs) (hB : B ≤ w.heap.size) (o : Obj) : Reads (w.alloc o) B size A n xs := h.keep fun p hp => World.cell?_alloc_lt w o p (by omega)
theorem Reads.setCell (h : Reads w B size A n xs) {p : Addr} (hB : B ≤ p.block) (u : Value) : Reads (w.setCell p u) B size A n xs :=
  h.keep fun q hq => World.cell?_setCell_other w p q u (fun e => by subst e; omega)
theorem Reads.grown (h : Reads w B size A n xs) {row : Option Nat} (hg : w.grownBy w' row) (hB : B ≤ w.heap.size) (hr : ∀ g, row = some g → B ≤ g) : Reads w' B size A n xs :=
  h.keep fun p hp => World.cell?_of_block (hg.block p.block (by omega) (fun e => by have := hr _ e.symm; omega))
theorem Reads.cut (h : Reads w B size A n xs) {k cap : Nat} (hk : k ≤ n) (hc : n ≤ cap) :
    Reads w B size (if cap = k then A else A.map (·.add (k * size))) (n - k) (xs.drop (k * size)) := by
  refine ⟨by rw [List.length_drop, h.1, Nat.sub_mul], fun hn => ?_⟩
  obtain ⟨ad, rfl, hb, hcell⟩ := h.2 (by omega)
  rw [if_neg (by omega)]
  refine ⟨ad.add (k * size), rfl, by rw [block_of_add]; exact hb, fun j u hu => ?_⟩
  rw [add_of_add]
  exact hcell _ u (by rw [← hu, List.getElem?_drop])
theorem Reads.of_own {base : Nat} {e : TypeId} {c : Nat} (h : w.ownsRow base e size (.slice A n c) n xs) : Reads w w.heap.size size A n xs := by
  refine ⟨h.1, fun hn => ?_⟩
  obtain ⟨g, cap, hv, _, hlt⟩ := h.form hn
  have hA : A = some ⟨g, 0, none⟩ := by injection hv
  subst hA
  exact ⟨_, rfl, hlt, h.cells (g := g) rfl⟩
end
def Blk (w : World) (g : Nat) (t : TypeId) (cs : Array Value) : Prop := w.heap[g]? = some (.cells cs t (0, 0))
section
variable {w w' : World} {g : Nat} {t : TypeId} {cs : Array Value}
theorem Blk.lt (h : Blk w g t cs) : g < w.heap.size := by
  rcases Nat.lt_or_ge g w.heap.size with hlt | hge
  · exact hlt
  · unfold Blk at h; rw [Array.getElem?_eq_none hge] at h; cases h
theorem Blk.cell (h : Blk w g t cs) (i : Nat) : w.cell? ⟨g, i, none⟩ = cs[i]? := cell_of_row w g i cs t (0, 0) h
theorem Blk.frozen (h : Blk w g t cs) (i : Nat) : w.frozen? ⟨g, i, none⟩ = false := by
  unfold Blk at h
  simp [World.frozen?, h]
theorem Blk.new (w : World) (t : TypeId) (cs : Array Value) : Blk (w.alloc (.cells cs t)) w.heap.size t cs := heap_alloc_new w _
theorem Blk.drew (h : Blk w g t cs) : Blk w.drew g t cs := h
theorem Blk.drewN (h : Blk w g t cs) (n : Nat) : Blk (w.drewN n) g t cs := h
theorem Blk.alloc (h : Blk w g t cs) (o : Obj) : Blk (w.alloc o) g t cs := (Below.heap_alloc w o g h.lt).trans h
theorem Blk.set_ (h : Blk w g t cs) (i : Nat) (u : Value) : Blk (w.setCell ⟨g, i, none⟩ u) g t (cs.setIfInBounds i u) := by
  unfold Blk at h ⊢
  simp [World.setCell, Array.getElem?_modify, h]
theorem Blk.far (h : Blk w g t cs) {p : Addr} (hp : g ≠ p.block) (u : Value) : Blk (w.setCell p u) g t cs := (Below.heap_setCell w p u g hp).trans h
theorem Blk.below {B : Nat} (h : Blk w g t cs) (hb : Below B w w') (hg : g < B) : Blk w' g t cs := (hb.block g hg).trans h
theorem Blk.grown {row : Option Nat} (h : Blk w g t cs) (hb : w.grownBy w' row) (hg : some g ≠ row) : Blk w' g t cs := (hb.block g h.lt hg).trans h
theorem Blk.ne_ {g' : Nat} {t' : TypeId} {cs' : Array Value} (h : Blk w g t cs) (h' : Blk w g' t' cs') (hne : t ≠ t') : g ≠ g' := by
  rintro rfl
  unfold Blk at h h'
  rw [h] at h'
  injection h' with h'
  injection h' with _ ht
  exact hne ht
end
theorem setCell_keep {w : World} {b o g t : Nat} {u v : Value} (h : w.cell? ⟨b, o, none⟩ = some v) (hne : ¬ b = g) : (w.setCell ⟨g, t, none⟩ u).cell? ⟨b, o, none⟩ = some v :=
  (World.cell?_setCell_other w _ _ u (fun e => hne (by injection e with e _ _; exact e.symm))).trans h
theorem below_drewN {B : Nat} {a w : World} (h : Below B a w) (n : Nat) : Below B a (w.drewN n) := ⟨h.os, h.tape, h.output, h.size, h.block⟩
abbrev vi (n : Int) : Value := .int .i64 n
def SL (w : World) (A : Option Addr) (xs : List Int) : Prop := Reads w w.heap.size 1 A xs.length (xs.map vi)
abbrev I64 (n : Int) : Prop := -9223372036854775808 ≤ n ∧ n ≤ 9223372036854775807
theorem ret_int {k : IntKind} {a b : Int} (h : a = b) : Ending.returned (.int k a) = .returned (.int k b) := by rw [h]
theorem ret_bool {a b : Bool} (h : a = b) : Ending.returned (.bool a) = .returned (.bool b) := by rw [h]
section
variable {w w' : World} {A : Option Addr} {xs : List Int}
theorem SL.at_ {k : Nat} (h : SL w A xs) (hk : k < xs.length) : ∃ ad, A = some ad ∧ ad.block < w.heap.size ∧ w.cell? (ad.add k) = some (vi xs[k]) := by
  obtain ⟨ad, u, e, hb, hx, hc⟩ := Reads.at_ (k := k) h hk
  rw [List.getElem?_map, List.getElem?_eq_getElem hk] at hx
  exact ⟨ad, e, hb, by rw [hc]; simpa using hx.symm⟩
theorem SL.below (h : SL w A xs) (hb : Below w.heap.size w w') : SL w' A xs := (Reads.below h hb).more hb.size
theorem SL.drewN (h : SL w A xs) (k : Nat) : SL (w.drewN k) A xs := h
theorem SL.nil : SL w A [] := Reads.none_
end
end Go.Proofs.YteceghbjjnknbaaGreat

namespace Go.Proofs.YteceghbjjnknbaaGreat
open Go.RowKit Zp
theorem tmod_emod (n : Int) (p : Nat) (hp : 0 < p) : n.tmod p = if 0 ≤ n then n % p else if n % p = 0 then 0 else n % p - p := by
  have hp' : (0 : Int) < p := by omega
  by_cases h : 0 ≤ n
  · rw [if_pos h, Int.tmod_eq_emod_of_nonneg h]
  · rw [if_neg h, Int.tmod_eq_emod]
    have hd : (p : Int) ∣ n ↔ n % p = 0 := Int.dvd_iff_emod_eq_zero
    by_cases h0 : n % (p : Int) = 0
    · rw [if_pos h0, if_pos (Or.inr (hd.2 h0)), h0]; rfl
    · rw [if_neg h0, if_neg (by rw [hd]; simp only [not_or]; exact ⟨by omega, h0⟩)]
      rw [Int.natAbs_natCast]
set_option maxHeartbeats 400000 in
theorem of_any (p : Nat) (hp : 0 < p) (hp2 : p ≤ 2147483647) (b : Nat) (n : Int) (hn : I64 n) (w : World) (hc : w.cell? ⟨b, 0, none⟩ = some (vi p)) :
    Calls Tryz.prog 19 #[.pointer (some ⟨b, 0, none⟩), vi n] w fun e w' => e = .returned (vi (n % p)) ∧ w = w' := by
  obtain ⟨hn1, hn2⟩ := hn
  have ht := tmod_emod n p hp
  have h1 := Int.emod_nonneg n (b := (p : Int)) (by omega)
  have h2 := Int.emod_lt_of_pos n (b := (p : Int)) (by omega)
  have b1 : -(p : Int) < n.tmod p := by rw [ht]; split <;> (try split) <;> omega
  have b2 : n.tmod p < p := by rw [ht]; split <;> (try split) <;> omega
  have H := Lib.hid ht
  clear ht
  go_enter Tryz.func19, Tryz.ntmps19
  go_wp2
  · go_ret
    have hlt : n.tmod p < 0 := by assumption
    have h := H.out
    refine ⟨ret_int ?_, rfl⟩
    rw [h] at hlt ⊢
    split at hlt <;> (try split at hlt) <;> simp_all <;> omega
  · go_ret
    have hge : 0 ≤ n.tmod p := by assumption
    have h := H.out
    refine ⟨ret_int ?_, rfl⟩
    rw [h] at hge ⊢
    split at hge <;> (try split at hge) <;> simp_all <;> omega
theorem of_el (p : Nat) [NeZero p] (hp2 : p ≤ 2147483647) (b : Nat) (n : Int) (hn : I64 n) (w : World) (hc : w.cell? ⟨b, 0, none⟩ = some (vi p)) :
    Calls Tryz.prog 19 #[.pointer (some ⟨b, 0, none⟩), vi n] w fun e w' => e = .returned (vi (fv (el p n))) ∧ w' = w :=
  (of_any p ppos hp2 b n hn w hc).mono fun e w' ⟨h1, h2⟩ => ⟨by rw [h1, fv_el], h2.symm⟩
set_option maxHeartbeats 400000 in
theorem add_any (p : Nat) [NeZero p] (hp2 : p ≤ 2147483647) (b : Nat) (m n : Int) (hm : I64 m) (hn : I64 n) (w : World) (hc : w.cell? ⟨b, 0, none⟩ = some (vi p)) :
    Calls Tryz.prog 73 #[.pointer (some ⟨b, 0, none⟩), vi m, vi n] w fun e w' => e = .returned (vi (fv (el p m + el p n))) ∧ ∃ k, w' = w.drewN k := by
  have h1 := fv_nonneg (el p m)
  have h2 := fv_lt (el p m)
  have h3 := fv_nonneg (el p n)
  have h4 := fv_lt (el p n)
  go_enter Tryz.func73, Tryz.ntmps73
  go_wp2
  go_quiet ((go_at_call 19; exact Calls.quiet_of_same (of_el p hp2 b _ ‹_› _ hc)))
  go_wp2
  go_ret
  exact ⟨ret_int (fv_add _ _).symm, _, rfl⟩
theorem mul_bd {p : Nat} (x y : Fin p) (hp2 : p ≤ 2147483647) : 0 ≤ fv x * fv y ∧ fv x * fv y ≤ 4611686014132420609 := by
  have h1 := x.isLt
  have h2 := y.isLt
  have h3 : x.val * y.val ≤ 2147483647 * 2147483647 := Nat.mul_le_mul (by omega) (by omega)
  have e : fv x * fv y = ((x.val * y.val : Nat) : Int) := by unfold fv; rw [Int.natCast_mul]
  rw [e]; omega
set_option maxHeartbeats 400000 in
theorem mul_any (p : Nat) [NeZero p] (hp2 : p ≤ 2147483647) (b : Nat) (m n : Int) (hm : I64 m) (hn : I64 n) (w : World) (hc : w.cell? ⟨b, 0, none⟩ = some (vi p)) :
    Calls Tryz.prog 75 #[.pointer (some ⟨b, 0, none⟩), vi m, vi n] w fun e w' => e = .returned (vi (fv (el p m * el p n))) ∧ ∃ k, w' = w.drewN k := by
  have h1 := fv_nonneg (el p m)
  have h2 := fv_lt (el p m)
  have h3 := fv_nonneg (el p n)
  have h4 := fv_lt (el p n)
  obtain ⟨h5, h6⟩ := mul_bd (el p m) (el p n) hp2
  go_enter Tryz.func75, Tryz.ntmps75
  go_wp2
  go_quiet ((go_at_call 19; exact Calls.quiet_of_same (of_el p hp2 b _ ‹_› _ hc)))
  go_wp2
  go_ret
  exact ⟨ret_int (fv_mul _ _).symm, _, rfl⟩
set_option maxHeartbeats 400000 in
theorem sub_any (p : Nat) [NeZero p] (hp2 : p ≤ 2147483647) (b : Nat) (m n : Int) (hm : I64 m) (hn : I64 n) (w : World) (hc : w.cell? ⟨b, 0, none⟩ = some (vi p)) :
    Calls Tryz.prog 84 #[.pointer (some ⟨b, 0, none⟩), vi m, vi n] w fun e w' => e = .returned (vi (fv (el p m - el p n))) ∧ w = w' := by
  have h1 := fv_nonneg (el p m)
  have h2 := fv_lt (el p m)
  have h3 := fv_nonneg (el p n)
  have h4 := fv_lt (el p n)
  have h5 : I64 (fv (el p m) - fv (el p n)) := by constructor <;> omega
  go_enter Tryz.func84, Tryz.ntmps84
  go_wp2_with (go_at_call 19; refine (of_el p hp2 b _ (by first | assumption | (constructor <;> omega)) _ hc).mono ?_; rintro e w' ⟨rfl, rfl⟩)
  go_ret
  exact ⟨ret_int (by rw [el_sub, el_fv, el_fv]), rfl⟩
theorem ofInt_i64 (a : Nat) (ha : a < 9223372036854775808) : (BitVec.ofInt 64 (a : Int)).toNat = a := by
  rw [BitVec.ofInt_natCast, BitVec.toNat_ofNat]; exact Nat.mod_eq_of_lt (by omega)
theorem i64_and_nat (a b : Nat) (ha : a < 9223372036854775808) (hb : b < 9223372036854775808) : bits .and .i64 (a : Int) (b : Int) = ((a &&& b : Nat) : Int) := by
  have hx : a &&& b < 2 ^ 63 := Nat.and_lt_two_pow _ (by omega)
  show IntKind.i64.wrap ((BitVec.ofInt 64 (a : Int) &&& BitVec.ofInt 64 (b : Int)).toNat : Int) = _
  rw [BitVec.toNat_and, ofInt_i64 a ha, ofInt_i64 b hb, IntKind.wrap_i64]
  omega
theorem and_one (k : Nat) (hk : (k : Int) ≤ 9223372036854775807) : bits .and .i64 (k : Int) 1 = ((k % 2 : Nat) : Int) := by
  have := i64_and_nat k 1 (by omega) (by omega)
  rw [Nat.and_one_is_mod] at this
  exact this
set_option maxHeartbeats 400000 in
theorem power_any (p : Nat) [NeZero p] (hp1 : 2 ≤ p) (hp2 : p ≤ 2147483647) (b : Nat) (m n : Int) (hm : I64 m) (hn : I64 n) (hn0 : 0 ≤ n) (w : World) (hc : w.cell? ⟨b, 0, none⟩ = some (vi p)) :
    Calls Tryz.prog 60 #[.pointer (some ⟨b, 0, none⟩), vi m, vi n] w fun e w' => e = .returned (vi (fv (pw (el p m) n.toNat))) ∧ w = w' := by
  have h1 := fv_nonneg (el p m)
  have h2 := fv_lt (el p m)
  go_enter Tryz.func60, Tryz.ntmps60
  go_wp2_with (go_at_call 19; refine (of_el p hp2 b _ hm _ hc).mono ?_; rintro e w' ⟨rfl, rfl⟩)
  go_loop [1, 2, 7] (fun a n' out => ∃ (k : Nat) (A O : Fin p), (k : Int) ≤ n ∧ a = vi (fv A) ∧ n' = vi k ∧ out = vi (fv O) ∧ O * pw A k = pw (el p m) n.toNat) (fun _ n' _ => (intOf n').toNat)
  case atStart => exact ⟨n.toNat, el p m, 1, by omega, rfl, by go_num, by rw [fv_one hp1], by grind⟩
  case round =>
    obtain ⟨k, A, O, hk, rfl, rfl, rfl, hO⟩ := hrel
    obtain ⟨h5, h6⟩ := mul_bd O A hp2
    obtain ⟨h7, h8⟩ := mul_bd A A hp2
    have hs := pow_step A k
    have hb := and_one k (by have := hn.2; omega)
    have HO := Lib.hid hO
    have HS := Lib.hid hs
    have HB := Lib.hid hb
    clear hO hs hb
    go_wp2
    · have h1 : (bits BinOp.and IntKind.i64 (↑k) 1 == 1) = true := by assumption
      rw [HB.out, beq_iff_eq] at h1
      have h0 : 0 < k := by assumption
      go_round
      case rel => exact ⟨k / 2, A * A, O * A, by omega, by rw [fv_mul], by go_num, by rw [fv_mul], by rw [← HO.out, HS.out, if_pos (by omega)]; grind⟩
      case measure => simp [intOf]; omega
    · have h1 : (bits BinOp.and IntKind.i64 (↑k) 1 == 1) = false := by assumption
      rw [HB.out, beq_eq_false_iff_ne] at h1
      have h0 : 0 < k := by assumption
      go_round
      case rel => exact ⟨k / 2, A * A, O, by omega, by rw [fv_mul], by go_num, rfl, by rw [← HO.out, HS.out, if_neg (by omega)]; grind⟩
      case measure => simp [intOf]; omega
    · have h0 : ¬ 0 < k := by assumption
      obtain rfl : k = 0 := by omega
      go_ret
      have h := HO.out
      refine ⟨ret_int ?_, rfl⟩
      rw [← h, pw_zero]
      congr 1
      grind
end Go.Proofs.YteceghbjjnknbaaGreat

namespace Go.Proofs.YteceghbjjnknbaaGreat
open Go.RowKit
theorem info_int : (Tryz.prog.info? 3).map (fun i => (i.zero, i.size, i.bytes)) = some (some (.int .i64 0), 1, 8) := by kernel_rfl
theorem grownBy_trans {a b c : World} {row : Option Nat} (h : a.grownBy b row) (k : b.grownBy c row) : a.grownBy c row :=
  ⟨k.os.trans h.os, k.tape.trans h.tape, k.output.trans h.output, Nat.le_trans h.size k.size, fun i hi hn => (k.block i (Nat.lt_of_lt_of_le hi h.size) hn).trans (h.block i hi hn)⟩
abbrev Own (w : World) (base : Nat) (v : Value) (xs : List Int) : Prop := w.ownsRow base 3 1 v xs.length (xs.map vi)
structure Grew (w w' : World) (base : Nat) (v v' : Value) (xs : List Int) : Prop where
  own : Own w' base v' xs
  grown : w.grownBy w' v.ownBlock
  at_ : v'.ownBlock = v.ownBlock ∨ ∃ k, v'.ownBlock = some k ∧ w.heap.size ≤ k
theorem Grew.below {w0 w w' : World} {base : Nat} {v v' : Value} {xs ys : List Int} (h : Grew w w' base v v' xs) {B : Nat} (hb : Below B w0 w) (ho : Own w base v ys) (hB : B ≤ base) (hs : B ≤ w.heap.size) : Below B w0 w' :=
  hb.grown h.grown hs (fun k hk => Nat.le_trans hB (ho.lt k hk).1)
theorem run_app1 (w : World) (base : Nat) (v : Value) (xs : List Int) (n : Int) (hown : Own w base v xs) (hlen : xs.length < 17592186044416) (hbase : base ≤ w.heap.size) (ty : TypeId) :
    ∃ v' w', (Builtin.append_ #[25, 25] ty #[v, .slice (some ⟨w.heap.size, 0, none⟩) 1 1]).run Tryz.prog (w.alloc (.cells #[vi n] 3)) = .ok v' w' ∧ Grew w w' base v v' (xs ++ [n]) := by
  obtain ⟨i0, hi, hz0, hz1, hz2⟩ := info_parts info_int
  obtain ⟨v', w', hrun, h2, h3, _, h5⟩ := run_append_own_at (P := Tryz.prog) (w.alloc (.cells #[vi n] 3)) base 25 ty 3 i0 _ 1 8 Tryz.underlying25 hi hz0 hz1 hz2 rfl (by omega)
    v xs.length (xs.map vi) (hown.alloc _) ⟨w.heap.size, 0, none⟩ 1 1 [vi n] rfl (by
      intro j u hj
      match j, hj with
      | 0, hj => simp at hj; subst hj; simp [Addr.add]) (by simp [Value.oneCell']) (by simp only [maxLen]; omega) (by omega) (by simp; omega)
  refine ⟨v', w', hrun, ?_, grownBy_trans (World.grownBy_alloc w _ _) h3, ?_⟩
  · have e : (xs ++ [n]).length = xs.length + 1 := by simp
    rw [Own, e, List.map_append]
    exact h2
  · rcases h5 with h | h
    · exact .inl h
    · exact .inr ⟨_, h, by simp⟩
theorem wpList_app1 {ops : Array Oper} {rest : List Oper} {o : Oper} {a : Act} {Q : Exit → Act → World → Prop} (w : World) (n : Int) (hgd : o.guard = none) (s x : Operand)
    (ho : o.op = .call { callee := .builtin .append, args := #[s, x], argTypes := #[25, 25] })
    (base : Nat) (v : Value) (xs : List Int) (hs : a.eval s = v) (hx : a.eval x = .slice (some ⟨w.heap.size, 0, none⟩) 1 1) (hown : Own w base v xs) (hlen : xs.length < 17592186044416) (hbase : base ≤ w.heap.size)
    (h : ∀ v' w', Grew w w' base v v' (xs ++ [n]) → wpList Tryz.prog ops Q rest (a.put o.dst v') w') : wpList Tryz.prog ops Q (o :: rest) a (w.alloc (.cells #[vi n] 3)) :=
  wpList_plain hgd fun _ hK => by
    obtain ⟨v', w', hrun, hg⟩ := run_app1 w base v xs n hown hlen hbase o.type
    unfold Oper.wp execOp
    simp only [ho, resolve, invoke, builtin, Sem.run_bind, Sem.run_pure, Result.andThen_ok, List.map_toArray, List.map_cons, List.map_nil, hs, hx, hrun]
    exact hK _ _ (h v' w' hg)
theorem Own.shape {w : World} {base : Nat} {v : Value} {xs : List Int} (h : Own w base v xs) : ∃ A c, v = .slice A xs.length c ∧ xs.length ≤ c ∧ c ≤ maxLen ∧ (∀ ad, A = some ad → ∃ g, ad = ⟨g, 0, none⟩ ∧ base ≤ g ∧ g < w.heap.size) ∧ SL w A xs := by
  have h' := h
  rcases h.2 with ⟨rfl, h0⟩ | ⟨g, cap, cur, rfl, hb, hg, hnc, hcm, hcs, ht⟩
  · have : xs = [] := List.eq_nil_of_length_eq_zero h0
    subst this
    exact ⟨none, 0, rfl, Nat.le_refl _, Nat.zero_le _, by simp, SL.nil⟩
  · refine ⟨_, cap, rfl, hnc, hcm, ?_, Reads.of_own h'⟩
    intro ad e
    injection e with e
    subst e
    exact ⟨g, rfl, hb, (h'.lt g rfl).2⟩
end Go.Proofs.YteceghbjjnknbaaGreat

namespace Go.Proofs.YteceghbjjnknbaaGreat
open Go.RowKit Zp
theorem i64_fv {p : Nat} (x : Fin p) (hp2 : p ≤ 2147483647) : I64 (fv x) := by
  have h1 := fv_nonneg x
  have h2 := fv_lt x
  constructor <;> omega
def zpw {p : Nat} [NeZero p] (a : Fin p) (n : Int) : Fin p := if 0 ≤ n then pw a n.toNat else pw (Zp.inv a) (-n).toNat
set_option maxHeartbeats 400000 in
theorem inv_any (p : Nat) [NeZero p] (hp1 : 2 ≤ p) (hp2 : p ≤ 2147483647) (b : Nat) (m : Int) (hm : I64 m) (w : World) (hc : w.cell? ⟨b, 0, none⟩ = some (vi p)) :
    Calls Tryz.prog 58 #[.pointer (some ⟨b, 0, none⟩), vi m] w fun e w' => e = .returned (vi (fv (Zp.inv (el p m)))) ∧ w = w' := by
  have h5 : I64 ((p : Int) - 2) := by constructor <;> omega
  have h6 : (0 : Int) ≤ (p : Int) - 2 := by omega
  have h7 : ((p : Int) - 2).toNat = p - 2 := by omega
  have H7 := Lib.hid h7
  clear h7
  go_enter Tryz.func58, Tryz.ntmps58
  go_wp2_with (go_at_call 60; refine (power_any p hp1 hp2 b m _ hm h5 h6 _ hc).mono ?_; rintro e w' ⟨rfl, rfl⟩)
  go_ret
  exact ⟨ret_int (by rw [H7.out]; rfl), rfl⟩
set_option maxHeartbeats 400000 in
theorem div_any (p : Nat) [NeZero p] (hp1 : 2 ≤ p) (hp2 : p ≤ 2147483647) (b : Nat) (m n : Int) (hm : I64 m) (hn : I64 n) (w : World) (hc : w.cell? ⟨b, 0, none⟩ = some (vi p)) :
    Calls Tryz.prog 122 #[.pointer (some ⟨b, 0, none⟩), vi m, vi n] w fun e w' => e = .returned (vi (fv (el p m * Zp.inv (el p n)))) ∧ ∃ k, w' = w.drewN k := by
  have h5 := i64_fv (Zp.inv (el p n)) hp2
  go_enter Tryz.func122, Tryz.ntmps122
  go_wp2_with (first | (go_at_call 58; refine (inv_any p hp1 hp2 b n hn _ hc).mono ?_; rintro e w' ⟨rfl, rfl⟩) | (go_at_call 75; refine (mul_any p hp2 b m _ hm h5 _ (by exact hc)).mono ?_; rintro e w' ⟨rfl, k2, rfl⟩))
  go_ret
  exact ⟨ret_int (by rw [el_fv]), _, rfl⟩
set_option maxHeartbeats 400000 in
theorem pow_any (p : Nat) [NeZero p] (hp1 : 2 ≤ p) (hp2 : p ≤ 2147483647) (b : Nat) (m n : Int) (hm : I64 m) (hn : I64 n) (w : World) (hc : w.cell? ⟨b, 0, none⟩ = some (vi p)) :
    Calls Tryz.prog 40 #[.pointer (some ⟨b, 0, none⟩), vi m, vi n] w fun e w' => e = .returned (vi (fv (zpw (el p m) n))) ∧ ∃ k, w' = w.drewN k := by
  by_cases h0 : 0 ≤ n
  · go_enter Tryz.func40, Tryz.ntmps40
    go_wp2_with (go_at_call 60; refine (power_any p hp1 hp2 b m n hm hn h0 _ hc).mono ?_; rintro e w' ⟨rfl, rfl⟩)
    go_ret
    exact ⟨ret_int (by rw [zpw, if_pos h0]), 0, rfl⟩
  · have hn1 := hn.1
    have hx := i64_fv (Zp.inv (el p m)) hp2
    have h5 : I64 (-(n + 1)) := by constructor <;> omega
    have h6 : 0 ≤ -(n + 1) := by omega
    have hy := i64_fv (pw (el p (fv (Zp.inv (el p m)))) (-(n + 1)).toNat) hp2
    go_enter Tryz.func40, Tryz.ntmps40
    go_wp2_with (first | (go_at_call 58; refine (inv_any p hp1 hp2 b m hm _ hc).mono ?_; rintro e w' ⟨rfl, rfl⟩) | (go_at_call 60; refine (power_any p hp1 hp2 b _ _ hx h5 h6 _ hc).mono ?_; rintro e w' ⟨rfl, rfl⟩) | (go_at_call 75; refine (mul_any p hp2 b _ _ hy hx _ (by exact hc)).mono ?_; rintro e w' ⟨rfl, k3, rfl⟩))
    go_ret
    refine ⟨ret_int ?_, _, rfl⟩
    rw [zpw, if_neg (by omega), el_fv, el_fv, show (-n).toNat = (-(n + 1)).toNat + 1 from by omega, pw_succ]
theorem p_any (p : Nat) (b : Nat) (w : World) (hc : w.cell? ⟨b, 0, none⟩ = some (vi p)) :
    Calls Tryz.prog 18 #[.pointer (some ⟨b, 0, none⟩)] w fun e w' => e = .returned (vi p) ∧ w = w' := by
  go_enter Tryz.func18, Tryz.ntmps18
  go_wp2
  go_ret
  exact ⟨rfl, rfl⟩
def primeB (p : Nat) : Bool := decide (IsPrime p)
theorem primeB_true {p : Nat} (h : IsPrime p) : primeB p = true := decide_eq_true h
theorem primeB_false {p : Nat} (h : ¬ IsPrime p) : primeB p = false := decide_eq_false h
set_option maxHeartbeats 400000 in
theorem prime_any (p : Nat) (hp1 : 2 ≤ p) (hp2 : p ≤ 2147483647) (w : World) :
    Calls Tryz.prog 98 #[vi p] w fun e w' => e = .returned (.bool (primeB p)) ∧ w = w' := by
  have hp3 : decide ((2 : Int) ≤ (p : Int)) = true := by simp; omega
  have HP := Lib.hid hp3
  clear hp3
  go_enter Tryz.func98, Tryz.ntmps98
  go_wp2
  go_loop [3] (fun d => ∃ k : Nat, 2 ≤ k ∧ k ≤ p ∧ d = vi k ∧ NoDiv p k) (fun d => p - (intOf d).toNat)
  case atStart => exact ⟨2, by omega, hp1, rfl, noDiv_two _⟩
  case round =>
    obtain ⟨k, hk1, hk2, rfl, hno⟩ := hrel
    have ec : (k : Int) * k = ((k * k : Nat) : Int) := by rw [Int.natCast_mul]
    have em : (p : Int) % k = ((p % k : Nat) : Int) := by rw [Int.natCast_emod]
    have h1 : (k : Int) * k ≤ 4611686014132420609 := by
      have : k * k ≤ 2147483647 * 2147483647 := Nat.mul_le_mul (by omega) (by omega)
      rw [ec]; omega
    have h0 : (0 : Int) ≤ (k : Int) * k := by rw [ec]; omega
    have hkk : k ≤ k * k := Nat.le_mul_of_pos_left k (by omega)
    have hk2' : 2 * k ≤ k * k := Nat.mul_le_mul_right k hk1
    have EC := Lib.hid ec
    have EM := Lib.hid em
    have HKK := Lib.hid hkk
    have HKK2 := Lib.hid hk2'
    clear ec em hkk hk2'
    go_wp2
    · have ht : (k : Int) * k ≤ p := by assumption
      have hd : ((p : Int) % k == 0) = true := by assumption
      rw [beq_iff_eq, EM.out] at hd
      rw [EC.out] at ht
      go_ret
      exact ⟨ret_bool (primeB_false (not_prime_of_dvd hk1 (by omega) (Nat.dvd_of_mod_eq_zero (by omega)))).symm, rfl⟩
    · have ht : (k : Int) * k ≤ p := by assumption
      have hd : ((p : Int) % k == 0) = false := by assumption
      rw [beq_eq_false_iff_ne, EM.out] at hd
      rw [EC.out] at ht
      have := HKK.out
      have := HKK2.out
      go_round
      case rel => exact ⟨k + 1, by omega, by omega, by go_num, hno.succ (fun h => hd (by rw [Nat.mod_eq_zero_of_dvd h]; rfl))⟩
      case measure => simp [intOf]; omega
    · have ht : (p : Int) < (k : Int) * k := by assumption
      rw [EC.out] at ht
      go_ret
      exact ⟨ret_bool (by rw [primeB_true (hno.prime hp1 (by omega))]; exact HP.out), rfl⟩
def PrimesOf (n : Nat) (w w' : World) (e : Ending) : Prop := ∃ (v : Value) (fs : List Nat), e = .returned v ∧ Own w' w.heap.size v (fs.map (fun q : Nat => (q : Int))) ∧ Below w.heap.size w w' ∧
      (∀ q ∈ fs, 2 ≤ q) ∧ (∀ q ∈ fs, q ≤ n) ∧ fs.length ≤ 2147483648 ∧ ∀ q, IsPrime q → q ∣ n → q ∈ fs
def PR (N : Nat) (w : World) (n out d : Value) (wr : World) : Prop := ∃ (m k : Nat) (fs : List Nat), n = vi m ∧ d = vi k ∧ Own wr w.heap.size out (fs.map (fun q : Nat => (q : Int))) ∧ Below w.heap.size w wr ∧ Apart N fs m k ∧ 2 ≤ k ∧ k ≤ N + 1 ∧ m ≤ N ∧ fs.length < k
set_option maxHeartbeats 1000000 in
theorem primes_any (N : Nat) (hn1 : 1 ≤ N) (hn2 : N ≤ 2147483647) (w : World) :
    Calls Tryz.prog 99 #[vi N] w fun e w' => PrimesOf N w w' e := by
  go_enter Tryz.func99, Tryz.ntmps99
  go_wp2
  go_loopw [0, 3, 4] (fun n out d wr => PR N w n out d wr) (fun n _ d _ => (intOf n).toNat + 2147483648 - (intOf d).toNat)
  case atStart => exact ⟨N, 2, [], rfl, rfl, World.ownsRow_nil _ _ _ _, Below.refl _ _, Apart.start (by omega), by omega, by omega, by omega, by simp⟩
  case round =>
    obtain ⟨m, k, fs, rfl, rfl, hown, hb, ha, hk1, hk2, hm, hfl⟩ := hrel
    have hm0 := ha.pos
    have hsz := hb.size
    have ec : (k : Int) * k = ((k * k : Nat) : Int) := by rw [Int.natCast_mul]
    have em : (m : Int) % k = ((m % k : Nat) : Int) := by rw [Int.natCast_emod]
    have h1 : (k : Int) * k ≤ 4611686018427387904 := by
      have : k * k ≤ 2147483648 * 2147483648 := Nat.mul_le_mul (by omega) (by omega)
      rw [ec]; omega
    have h0 : (0 : Int) ≤ (k : Int) * k := by rw [ec]; omega
    have hkk : k * k ≤ m → k ≤ m := fun h => Nat.le_trans (Nat.le_mul_of_pos_left k (by omega)) h
    by_cases hlt : k * k ≤ m
    · have hkm := hkk hlt
      by_cases hd : m % k = 0
      · have t1 : (k : Int) * k ≤ m := by rw [ec]; omega
        have t2 : ((m : Int) % k != 0) = false := by rw [em, hd]; rfl
        clear ec em hkk
        have hdv : k ∣ m := Nat.dvd_of_mod_eq_zero hd
        clear hd
        have hs := ha.hit hdv hk1 (by omega)
        clear ha
        have HDV := Lib.hid hdv
        clear hdv hlt
        go_wp2_with (at_builtin; refine wpList_app1 wr k rfl _ _ rfl w.heap.size _ _ rfl rfl hown (by simp; omega) hb.size ?_; intro v' w1 hg)
        have hb1 := hg.below hb hown (Nat.le_refl _) hb.size
        have ho1 := hg.own
        clear hg hown hb t1
        obtain ⟨W1, hW1⟩ : ∃ W : World, W = w1 := ⟨_, rfl⟩
        subst hW1
        go_loop [0] (fun n => ∃ m' : Nat, n = vi m' ∧ Striking N fs m' k ∧ m' ≤ m) (fun n => (intOf n).toNat)
        case atStart => exact ⟨m, rfl, hs, Nat.le_refl _⟩
        case round =>
          obtain ⟨m', rfl, hs', hle⟩ := hrel
          have hm0' := hs'.pos
          have em : (m' : Int) % k = ((m' % k : Nat) : Int) := by rw [Int.natCast_emod]
          have ed : (m' : Int) / k = ((m' / k : Nat) : Int) := by rw [Int.natCast_ediv]
          have hdl : m' / k < m' := Nat.div_lt_self hm0' (by omega)
          by_cases hd' : m' % k = 0
          · have t3 : ((m' : Int) % k == 0) = true := by rw [em, hd']; rfl
            have hs2 := hs'.strike (Nat.dvd_of_mod_eq_zero hd')
            have hq0 : 0 ≤ (m' : Int) / k := by rw [ed]; exact Int.natCast_nonneg _
            have hq1 : (m' : Int) / k ≤ 2147483647 := by rw [ed]; exact Int.ofNat_le.2 (Nat.le_trans (Nat.le_of_lt hdl) (Nat.le_trans hle (Nat.le_trans hm hn2)))
            have ED := Lib.hid ed
            clear em ed hd'
            go_wp2
            go_round
            case rel => exact ⟨m' / k, by rw [ED.out], hs2, by omega⟩
            case measure => rw [ED.out]; simp only [intOf, Int.toNat_natCast]; exact hdl
          · have t3 : ((m' : Int) % k == 0) = false := by rw [em, beq_eq_false_iff_ne]; omega
            have ha2 := hs'.done (fun h => hd' (Nat.mod_eq_zero_of_dvd h))
            clear em ed hd'
            go_wp2
            go_roundw
            case rel => exact ⟨m', k + 1, fs ++ [k], rfl, by go_num, by rw [List.map_append]; exact ho1, hb1, ha2, by omega, by omega, by omega, by simp; omega⟩
            case measure => simp [intOf]; omega
      · have t1 : (k : Int) * k ≤ m := by rw [ec]; omega
        have t2 : ((m : Int) % k != 0) = true := by rw [em, bne_iff_ne]; omega
        clear ec em hkk
        have ha2 := ha.skip (fun h => hd (Nat.mod_eq_zero_of_dvd h))
        clear hd
        go_wp2
        go_roundw
        case rel => exact ⟨m, k + 1, fs, rfl, by go_num, hown, hb, ha2, by omega, by omega, hm, by omega⟩
        case measure => simp [intOf]; omega
    · have t1 : (m : Int) < (k : Int) * k := by rw [ec]; omega
      clear ec em hkk
      by_cases h1m : 1 < m
      · have hl := ha.last (by omega) (by omega) h1m
        clear hlt
        go_wp2_with (at_builtin; refine wpList_app1 wr m rfl _ _ rfl w.heap.size _ _ rfl rfl hown (by simp; omega) hb.size ?_; intro v' w1 hg)
        go_ret
        exact ⟨v', fs ++ [m], rfl, by rw [List.map_append]; exact hg.own, hg.below hb hown (Nat.le_refl _) hb.size, hl.1, hl.2.1, by simp; omega, hl.2.2⟩
      · have hl := ha.none h1m
        clear hlt
        go_wp2
        go_ret
        exact ⟨_, fs, rfl, hown, hb, hl.1, hl.2.1, by omega, hl.2.2⟩
end Go.Proofs.YteceghbjjnknbaaGreat

namespace Go.Proofs.YteceghbjjnknbaaGreat
open Go.RowKit Zp
set_option maxHeartbeats 1000000 in
theorem order_any (p : Nat) [NeZero p] (hp : IsPrime p) (hp2 : p ≤ 2147483647) (fs : List Nat) (hf : Facs p fs) (b : Nat) (m : Int) (hm : I64 m) (w : World) (hc : w.cell? ⟨b, 0, none⟩ = some (vi p))
    (A : Option Addr) (c : Nat) (hc1 : w.cell? ⟨b, 1, none⟩ = some (.slice A fs.length c)) (hl : fs.length ≤ 2147483648) (hs : SL w A (fs.map (fun q : Nat => (q : Int)))) :
    Calls Tryz.prog 100 #[.pointer (some ⟨b, 0, none⟩), vi m] w fun e w' => e = .returned (vi (ordN (el p m))) ∧ w = w' := by
  have hp1 := hp.1
  by_cases hx : el p m = 0
  · have h0 : (fv (el p m) == 0) = true := by rw [hx]; rfl
    have HX := Lib.hid hx
    clear hx
    go_enter Tryz.func100, Tryz.ntmps100
    go_wp2_with (go_at_call 19; refine (of_el p hp2 b _ hm _ hc).mono ?_; rintro e w' ⟨rfl, rfl⟩)
    go_ret
    exact ⟨ret_int (by rw [HX.out, ordN_zero hp]; rfl), rfl⟩
  · have h0 : (fv (el p m) == 0) = false := by rw [beq_eq_false_iff_ne]; exact fun h => hx (fv_eq_zero.1 h)
    have HX := Lib.hid hx
    clear hx
    go_enter Tryz.func100, Tryz.ntmps100
    go_wp2_with (go_at_call 19; refine (of_el p hp2 b _ hm _ hc).mono ?_; rintro e w' ⟨rfl, rfl⟩)
    have e1 : ((p : Int) - 1) = ((p - 1 : Nat) : Int) := by omega
    have E1 := Lib.hid e1
    clear e1
    go_loop [5, 7, 22] (fun n _ i => ∃ (n' k : Nat), n = vi n' ∧ i = vi k ∧ k ≤ fs.length ∧ Struck (el p m) fs k n' ∧ n' ≤ p - 1) (fun _ _ i => fs.length - (intOf i).toNat)
    case atStart => exact ⟨p - 1, 0, by rw [E1.out], rfl, by omega, Struck.start hp HX.out fs, Nat.le_refl _⟩
    case round =>
      obtain ⟨n, k, rfl, rfl, hk, hst, hn⟩ := hrel
      by_cases hlt : k < fs.length
      · obtain ⟨ad, rfl, hab, hcell⟩ := hs.at_ (k := k) (by simpa using hlt)
        have hcell' : w'.cell? (ad.add k) = some (vi fs[k]) := by rw [hcell]; simp
        clear hcell
        go_wp2
        have hq2 : 2 ≤ fs[k] := hf.two _ (List.getElem_mem _)
        obtain ⟨q, hq⟩ : ∃ q, q = fs[k] := ⟨_, rfl⟩
        rw [← hq] at hq2
        have HQ := Lib.hid hq
        simp only [← hq]
        clear hq hcell'
        go_loop [5] (fun n => ∃ (n' : Nat), n = vi n' ∧ Struck (el p m) fs k n' ∧ n' ≤ p - 1) (fun n => (intOf n).toNat)
        case atStart => exact ⟨n, rfl, hst, hn⟩
        case round =>
          clear hst hn
          obtain ⟨n', rfl, hst, hn⟩ := hrel
          have hn0 : 0 < n' := Nat.pos_of_ne_zero hst.ne
          have hnb : n' ≤ 2147483647 := by omega
          have em : (n' : Int) % q = ((n' % q : Nat) : Int) := by rw [Int.natCast_emod]
          have ed : (n' : Int) / q = ((n' / q : Nat) : Int) := by rw [Int.natCast_ediv]
          have hdl : n' / q < n' := Nat.div_lt_self hn0 (by omega)
          have hq0 : 0 ≤ (n' : Int) / q := by rw [ed]; exact Int.natCast_nonneg _
          have hq1 : (n' : Int) / q ≤ 2147483647 := by rw [ed]; exact Int.ofNat_le.2 (Nat.le_trans (Nat.le_of_lt hdl) hnb)
          have hI : I64 ((n' : Int) / q) := ⟨by omega, by omega⟩
          have et : ((n' : Int) / q).toNat = n' / q := by rw [ed]; rfl
          have ET := Lib.hid et
          by_cases hd : n' % q = 0
          · have hdv : q ∣ n' := Nat.dvd_of_mod_eq_zero hd
            have t3 : ((n' : Int) % q == 0) = true := by rw [em, hd]; rfl
            by_cases h1 : pw (el p m) (n' / q) = 1
            · have t4 : (fv (pw (el p m) ((n' : Int) / q).toNat) == 1) = true := by rw [beq_iff_eq, et, h1, fv_one hp1]
              have hs2 := hst.strike hf.two hq2 hdv h1
              have hnl : n' / q ≤ p - 1 := Nat.le_trans (Nat.le_of_lt hdl) hn
              have ED := Lib.hid ed
              have HDV := Lib.hid hdv
              clear em ed hd et h1 hdv
              go_wp2_with (go_at_call 60; refine (power_any p hp1 hp2 b m _ hm hI hq0 _ hc).mono ?_; rintro e w' ⟨rfl, rfl⟩)
              go_round
              case rel => exact ⟨n' / q, by rw [ED.out], hs2, hnl⟩
              case measure => rw [ED.out]; simp only [intOf, Int.toNat_natCast]; exact hdl
            · have t4 : (fv (pw (el p m) ((n' : Int) / q).toNat) == 1) = false := by rw [beq_eq_false_iff_ne, et]; exact fun h => h1 ((fv_eq_one hp1).1 h)
              have hs2 := hst.next hlt (by rw [← HQ.out]; exact fun h => h1 h.2)
              clear em ed hd et h1 hdv
              go_wp2_with (go_at_call 60; refine (power_any p hp1 hp2 b m _ hm hI hq0 _ hc).mono ?_; rintro e w' ⟨rfl, rfl⟩)
              go_round
              case rel => exact ⟨n', k + 1, rfl, by go_num, by omega, hs2, hn⟩
              case measure => simp [intOf]; omega
          · have t3 : ((n' : Int) % q == 0) = false := by rw [em, beq_eq_false_iff_ne]; omega
            have hs2 := hst.next hlt (by rw [← HQ.out]; exact fun h => hd (Nat.mod_eq_zero_of_dvd h.1))
            clear em ed hd et
            go_wp2
            go_round
            case rel => exact ⟨n', k + 1, rfl, by go_num, by omega, hs2, hn⟩
            case measure => simp [intOf]; omega
      · obtain rfl : k = fs.length := by omega
        have ho := hst.ord hp hf
        go_wp2
        go_ret
        exact ⟨ret_int (by rw [ordN_of_ord hp HX.out ho]), rfl⟩
end Go.Proofs.YteceghbjjnknbaaGreat

namespace Go.Proofs.YteceghbjjnknbaaGreat
open Go.RowKit Zp
structure Fld (w : World) (S b p : Nat) [NeZero p] : Prop where
  prime : IsPrime p
  three : 3 ≤ p
  max : p ≤ 2147483647
  lt : b < S
  le : S ≤ w.heap.size
  c0 : w.cell? ⟨b, 0, none⟩ = some (vi p)
  c1 : ∃ A c fs, w.cell? ⟨b, 1, none⟩ = some (.slice A fs.length c) ∧ fs.length ≤ 2147483648 ∧ Facs p fs ∧ Reads w S 1 A fs.length ((fs.map (fun q : Nat => (q : Int))).map vi)
  c2 : w.cell? ⟨b, 2, none⟩ = some (vi (genN p))
section
variable {w w' : World} {S b p : Nat} [NeZero p]
theorem Fld.keep (h : Fld w S b p) (hk : ∀ q : Addr, q.block < S → w'.cell? q = w.cell? q) (hs : w.heap.size ≤ w'.heap.size) : Fld w' S b p := by
  obtain ⟨A, c, fs, h1, h2, h3, h4⟩ := h.c1
  exact ⟨h.prime, h.three, h.max, h.lt, Nat.le_trans h.le hs, (hk _ h.lt).trans h.c0, ⟨A, c, fs, (hk _ h.lt).trans h1, h2, h3, h4.keep hk⟩, (hk _ h.lt).trans h.c2⟩
theorem Fld.below (h : Fld w S b p) {B : Nat} (hb : Below B w w') (hS : S ≤ B) : Fld w' S b p := h.keep (fun q hq => hb.cell (by omega)) hb.size
theorem Fld.drewN (h : Fld w S b p) (k : Nat) : Fld (w.drewN k) S b p := h.keep (fun _ _ => rfl) (Nat.le_refl _)
theorem Fld.two (h : Fld w S b p) : 2 ≤ p := by have := h.three; omega
theorem Fld.alloc (h : Fld w S b p) (o : Obj) : Fld (w.alloc o) S b p := h.keep (fun q hq => World.cell?_alloc_lt w o q (by have := h.le; omega)) (by simp)
end
abbrev NoField : Ending := .returned (.tuple #[.pointer none, .iface 71 (.int .i64 1)])
theorem new_no (p : Int) (w : World) (h : p < 3 ∨ 2147483647 < p) :
    Calls Tryz.prog 55 #[vi p] w fun e w' => e = NoField ∧ w = w' := by
  by_cases h3 : p < 3
  · go_enter Tryz.func55, Tryz.ntmps55
    go_wp2
    go_ret2
    exact ⟨rfl, rfl⟩
  · have h4 : 2147483647 < p := by omega
    clear h
    go_enter Tryz.func55, Tryz.ntmps55
    go_wp2
    go_ret2
    exact ⟨rfl, rfl⟩
theorem new_composite (p : Nat) (w : World) (h1 : 3 ≤ p) (h2 : p ≤ 2147483647) (hp : ¬ IsPrime p) :
    Calls Tryz.prog 55 #[vi p] w fun e w' => e = NoField ∧ w = w' := by
  have hb := primeB_false hp
  clear hp
  go_enter Tryz.func55, Tryz.ntmps55
  go_wp2_with (go_at_call 98; refine (prime_any p (by omega) h2 _).mono ?_; rintro e w' ⟨rfl, rfl⟩)
  go_ret2
  exact ⟨rfl, rfl⟩
def MadeField (p : Nat) [NeZero p] (w : World) (e : Ending) (w' : World) : Prop :=
  ∃ b : Nat, e = .returned (.tuple #[.pointer (some ⟨b, 0, none⟩), .nilIface]) ∧ Fld w' w'.heap.size b p ∧ Below w.heap.size w w' ∧ w.heap.size ≤ b
set_option maxHeartbeats 1000000 in
theorem new_prime (p : Nat) [NeZero p] (w : World) (h1 : 3 ≤ p) (h2 : p ≤ 2147483647) (hp : IsPrime p) :
    Calls Tryz.prog 55 #[vi p] w fun e w' => MadeField p w e w' := by
  have hb := primeB_true hp
  have hpr := (primes_any (p - 1) (by omega) (by omega) w)
  have ep : ((p - 1 : Nat) : Int) = (p : Int) - 1 := by omega
  rw [ep] at hpr
  have EP := Lib.hid ep
  clear ep
  have HPR := Lib.hid hpr
  clear hpr
  go_enter Tryz.func55, Tryz.ntmps55
  go_wp2_with (go_at_call 98; refine (prime_any p (by omega) h2 _).mono ?_; rintro e w' ⟨rfl, rfl⟩)
  refine (HPR.out).mono ?_
  rintro e w1 ⟨v, fs, rfl, hown, hbel, hf2, hfl, hfn, hfa⟩
  obtain ⟨A, c, hv, _, _, _, hsl⟩ := hown.shape
  rw [hv]
  rw [List.length_map]
  clear hown hv
  have hsz := hbel.size
  go_wp2
  go_loopg [] (p - 1) (fun t wr => ∃ g : Nat, t + g = p ∧ 1 ≤ g ∧ g < p ∧ Blk wr w1.heap.size 122 #[vi p, .slice A fs.length c, vi g] ∧ Below w1.heap.size w1 wr ∧
    ∀ k : Nat, 1 ≤ k → k < g → ¬ Ord (el p (k : Int)) (p - 1))
  case atStart =>
    exact ⟨1, by omega, by omega, by omega, Blk.new _ _ _, (Below.refl _ _).alloc (Nat.le_refl _) _, fun k h1 h2 => by omega⟩
  case round =>
    obtain ⟨g, hg, hg1, hgp, hblk, hb1, hno⟩ := hrel
    have hc0 : wr.cell? ⟨w1.heap.size, 0, none⟩ = some (vi p) := by rw [hblk.cell]; rfl
    have hc1 : wr.cell? ⟨w1.heap.size, 1, none⟩ = some (.slice A fs.length c) := by rw [hblk.cell]; rfl
    have hc2 : wr.cell? ⟨w1.heap.size, 2, none⟩ = some (vi g) := by rw [hblk.cell]; rfl
    have hfz := hblk.frozen 2
    have hfac : Facs p fs := ⟨hf2, hfl, hfa⟩
    have hslr : SL wr A (fs.map (fun q : Nat => (q : Int))) := SL.below hsl hb1
    have hI : I64 (g : Int) := ⟨by omega, by omega⟩
    have hx0 : el p (g : Int) ≠ 0 := fun h => by
      have := el_natCast_of_lt hgp
      rw [h, fv_zero] at this
      omega
    by_cases ho : Ord (el p (g : Int)) (p - 1)
    · have hb : (((ordN (el p (g : Int)) : Nat) : Int) != (p : Int) - 1) = false := by rw [ordN_of_ord hp hx0 ho, bne_eq_false_iff_eq, EP.out]
      have hgen : genN p = g := genN_eq ⟨hg1, hgp, ho, hno⟩
      have HG := Lib.hid hgen
      clear hgen hno ho hx0
      have HH := Lib.hid hg
      clear hg
      go_wp2_with (go_at_call 100; refine (order_any p hp h2 fs hfac _ _ hI _ hc0 A c hc1 hfn hslr).mono ?_; rintro e w' ⟨rfl, rfl⟩)
      go_ret2
      have hlt := hblk.lt
      refine ⟨w1.heap.size, rfl, ⟨hp, h1, h2, hlt, Nat.le_refl _, hc0, ⟨A, c, fs, hc1, hfn, hfac, ?_⟩, by rw [HG.out]; exact hc2⟩, hbel.trans (hb1.mono hsz), hsz⟩
      unfold SL at hslr
      rw [List.length_map] at hslr
      exact hslr
    · have hne : ordN (el p (g : Int)) ≠ p - 1 := fun h => ho (h ▸ ordN_ord hp hx0)
      have hb : (((ordN (el p (g : Int)) : Nat) : Int) != (p : Int) - 1) = true := by rw [bne_iff_ne, ← EP.out]; omega
      have hno2 : ∀ k : Nat, 1 ≤ k → k < g + 1 → ¬ Ord (el p (k : Int)) (p - 1) := fun k hk hk2 => by
        by_cases e : k = g
        · exact e ▸ ho
        · exact hno k hk (by omega)
      have hg2 : g + 1 < p := by
        false_or_by_contra
        rename_i hge
        obtain ⟨r, r1, r2, r3⟩ := gen_exists hp
        exact hno2 r r1 (by omega) r3
      have HH := Lib.hid hg
      clear hne hx0 hg ho hno
      go_wp2_with (go_at_call 100; refine (order_any p hp h2 fs hfac _ _ hI _ hc0 A c hc1 hfn hslr).mono ?_; rintro e w' ⟨rfl, rfl⟩)
      go_roundg (gk - 1)
      case measure => have := HH.out; omega
      case rel => exact ⟨g + 1, by have := HH.out; omega, by omega, hg2, hblk.set_ 2 _, hb1.setCell (Nat.le_refl _) _, hno2⟩
end Go.Proofs.YteceghbjjnknbaaGreat

namespace Go.Proofs.YteceghbjjnknbaaGreat
open Go.RowKit
def zeros (n : Nat) : Array Value := madeCells #[vi 0] n
theorem zeros_size (n : Nat) : (zeros n).size = n := size_madeCells _ _
theorem zeros_toList (n : Nat) : (zeros n).toList = (List.replicate n (0 : Int)).map vi := by
  rw [zeros, toList_madeCells_one, List.map_replicate]
theorem make_ints (n c : Nat) (hnc : n ≤ c) (hc : c * 8 ≤ 281474976710656) (w : World) :
    (Instr.makeSlice 25 (vi n) (vi c)).run Tryz.prog w = .ok (.slice (some ⟨w.heap.size, 0, none⟩) n c) (w.alloc (.cells (zeros c) 3)) := by
  obtain ⟨i0, hi, hz0, hz1, hz2⟩ := info_parts info_int
  have h := run_make (P := Tryz.prog) w 25 3 i0 (.int .i64 0) Tryz.underlying25 hi hz0 .i64 .i64 n c (by omega) (by omega) (by rw [hz2]; omega) (by omega)
  rw [hz1, Int.toNat_natCast, Int.toNat_natCast, Nat.mul_one] at h
  exact h
theorem make_ints0 (c : Nat) (hc : c * 8 ≤ 281474976710656) (w : World) :
    (Instr.makeSlice 25 (.int .i64 0) (vi c)).run Tryz.prog w = .ok (.slice (some ⟨w.heap.size, 0, none⟩) 0 c) (w.alloc (.cells (zeros c) 3)) := make_ints 0 c (Nat.zero_le _) hc w
theorem maxLen_of8 {c : Nat} (hc : c * 8 ≤ 281474976710656) : c ≤ maxLen := by simp only [maxLen]; omega
theorem own_made0 (w : World) (base c : Nat) (hb : base ≤ w.heap.size) (hc : c * 8 ≤ 281474976710656) : Own (w.alloc (.cells (zeros c) 3)) base (.slice (some ⟨w.heap.size, 0, none⟩) 0 c) [] :=
  World.ownsRow_made w _ c hb (maxLen_of8 hc) (by rw [zeros_size, Nat.mul_one])
theorem own_made (w : World) (base n : Nat) (hb : base ≤ w.heap.size) (hc : n * 8 ≤ 281474976710656) : Own (w.alloc (.cells (zeros n) 3)) base (.slice (some ⟨w.heap.size, 0, none⟩) n n) (List.replicate n 0) := by
  have h := World.ownsRow_lit (e := 3) (size := 1) w (zeros n) n hb (maxLen_of8 hc) (by rw [zeros_size, Nat.mul_one])
  rw [zeros_toList] at h
  rw [Own, List.length_replicate]
  exact h
theorem own_lit (w : World) (base : Nat) (xs : List Int) (hb : base ≤ w.heap.size) (hm : xs.length ≤ maxLen) : Own (w.alloc (.cells (xs.map vi).toArray 3)) base (.slice (some ⟨w.heap.size, 0, none⟩) xs.length xs.length) xs := by
  have h := World.ownsRow_lit (e := 3) (size := 1) w (xs.map vi).toArray xs.length hb hm (by simp)
  exact h
section
variable {w w' : World} {base base' : Nat} {v : Value} {xs : List Int}
theorem Own.more (h : Own w base v xs) (hb : base' ≤ base) : Own w base' v xs := by
  refine ⟨h.1, ?_⟩
  rcases h.2 with h0 | ⟨g, cap, cur, hv, hg, rest⟩
  · exact .inl h0
  · exact .inr ⟨g, cap, cur, hv, Nat.le_trans hb hg, rest⟩
theorem Own.keep (h : Own w base v xs) (hk : ∀ g, v.ownBlock = some g → w'.heap[g]? = w.heap[g]?) : Own w' base v xs := by
  refine ⟨h.1, ?_⟩
  rcases h.2 with h0 | ⟨g, cap, cur, hv, hg, hh, rest⟩
  · exact .inl h0
  · exact .inr ⟨g, cap, cur, hv, hg, by rw [hk g (by rw [hv]; rfl)]; exact hh, rest⟩
theorem Own.below (h : Own w base v xs) (hb : Below w.heap.size w w') : Own w' base v xs := h.keep fun g hg => hb.block g (h.lt g hg).2
theorem Own.drewN (h : Own w base v xs) (k : Nat) : Own (w.drewN k) base v xs := h
theorem Own.alloc' (h : Own w base v xs) (o : Obj) : Own (w.alloc o) base v xs := World.ownsRow.alloc h o
theorem Own.far (h : Own w base v xs) {q : Addr} (hq : v.ownBlock ≠ some q.block) (u : Value) : Own (w.setCell q u) base v xs :=
  h.keep fun g hg => Below.heap_setCell w q u g (fun e => hq (by rw [hg, e]))
theorem Own.grown (h : Own w base v xs) {row : Option Nat} (hg : w.grownBy w' row) (hne : v.ownBlock = none ∨ v.ownBlock ≠ row) : Own w' base v xs := World.ownsRow.kept h hg hne
theorem Own.len (h : Own w base v xs) : ∃ A c, v = .slice A xs.length c ∧ SL w A xs := by
  obtain ⟨A, c, h1, _, _, _, h2⟩ := h.shape
  exact ⟨A, c, h1, h2⟩
end
theorem Own.shapeN {w : World} {base : Nat} {v : Value} {xs : List Int} (h : Own w base v xs) : ∃ A n c, v = .slice A n c ∧ xs.length = n ∧ n ≤ c ∧ c ≤ maxLen ∧ SL w A xs := by
  obtain ⟨A, c, h1, h2, h3, _, h4⟩ := h.shape
  exact ⟨A, _, c, h1, rfl, h2, h3, h4⟩
theorem set_map_vi (xs : List Int) (j : Nat) (n : Int) : (xs.map vi).set j (vi n) = (xs.set j n).map vi := by rw [List.map_set]
theorem Own.store {w : World} {base g n cap : Nat} {xs : List Int} (h : Own w base (.slice (some ⟨g, 0, none⟩) n cap) xs) (hn : n = xs.length) (j : Nat) (m : Int) :
    Own (w.setCell ⟨g, j, none⟩ (vi m)) base (.slice (some ⟨g, 0, none⟩) n cap) (xs.set j m) := by
  subst hn
  have h2 := (World.ownsRow.stored h j (vi m)).1
  rw [Own, List.length_set, ← set_map_vi]
  exact h2
theorem Own.at_ {w : World} {base g n cap : Nat} {xs : List Int} (h : Own w base (.slice (some ⟨g, 0, none⟩) n cap) xs) (hn : n = xs.length) (j : Nat) (hj : j < xs.length) : w.cell? ⟨g, j, none⟩ = some (vi xs[j]) := by
  subst hn
  rw [World.ownsRow.cellAt h j (by omega), List.getElem?_map, List.getElem?_eq_getElem hj]; rfl
theorem Own.frozen_ {w : World} {base g n cap : Nat} {xs : List Int} (h : Own w base (.slice (some ⟨g, 0, none⟩) n cap) xs) (hn : n = xs.length) (j : Nat) : w.frozen? ⟨g, j, none⟩ = false := by
  subst hn
  exact World.ownsRow.frozenAt h j
theorem Own.block {w : World} {base : Nat} {v : Value} {xs : List Int} (h : Own w base v xs) (hn : 0 < xs.length) : ∃ g cap, v = .slice (some ⟨g, 0, none⟩) xs.length cap ∧ base ≤ g ∧ g < w.heap.size := by
  obtain ⟨A, c, rfl, _, _, hA, hs⟩ := h.shape
  obtain ⟨ad, rfl, _, _⟩ := hs.at_ hn
  obtain ⟨g, rfl, h1, h2⟩ := hA ad rfl
  exact ⟨g, c, rfl, h1, h2⟩
theorem wpList_app1_fits {ops : Array Oper} {rest : List Oper} {o : Oper} {a : Act} {Q : Exit → Act → World → Prop} (w : World) (n : Int) (hgd : o.guard = none) (s x : Operand)
    (ho : o.op = .call { callee := .builtin .append, args := #[s, x], argTypes := #[25, 25] })
    (base g k cap : Nat) (xs : List Int) (hs : a.eval s = .slice (some ⟨g, 0, none⟩) k cap) (hx : a.eval x = .slice (some ⟨w.heap.size, 0, none⟩) 1 1) (hown : Own w base (.slice (some ⟨g, 0, none⟩) k cap) xs) (hk : k = xs.length) (hroom : k < cap)
    (h : ∀ w', Own w' base (.slice (some ⟨g, 0, none⟩) (k + 1) cap) (xs ++ [n]) → w.grownBy w' (some g) → wpList Tryz.prog ops Q rest (a.put o.dst (.slice (some ⟨g, 0, none⟩) (k + 1) cap)) w') :
    wpList Tryz.prog ops Q (o :: rest) a (w.alloc (.cells #[vi n] 3)) :=
  wpList_plain hgd fun _ hK => by
    subst hk
    obtain ⟨i0, hi, hz0, hz1, hz2⟩ := info_parts info_int
    obtain ⟨w', hrun, h2, h3⟩ := run_append_fits (P := Tryz.prog) (w.alloc (.cells #[vi n] 3)) base 25 o.type 3 i0 1 Tryz.underlying25 hi hz1 g xs.length cap (xs.map vi) (hown.alloc _)
      ⟨w.heap.size, 0, none⟩ 1 1 [vi n] rfl (cell_one_new _ _ _) (by simp [Value.oneCell']) (by omega)
    unfold Oper.wp execOp
    simp only [ho, resolve, invoke, builtin, Sem.run_bind, Sem.run_pure, Result.andThen_ok, List.map_toArray, List.map_cons, List.map_nil, hs, hx, hrun]
    refine hK _ _ (h w' ?_ (grownBy_trans (World.grownBy_alloc w _ _) h3))
    have e : (xs ++ [n]).length = xs.length + 1 := by simp
    rw [Own, e, List.map_append]
    exact h2
def Made (xs : List Int) (w : World) (e : Ending) (w' : World) : Prop := ∃ v, e = .returned v ∧ Own w' w.heap.size v xs ∧ Below w.heap.size w w'
def Gives (xs : List Int) (w : World) (e : Ending) (w' : World) : Prop := ∃ A c, e = .returned (.slice A xs.length c) ∧ xs.length ≤ c ∧ c ≤ maxLen ∧ SL w' A xs ∧ Below w.heap.size w w'
def SaysW (v : Value) (w : World) (e : Ending) (w' : World) : Prop := e = .returned v ∧ Below w.heap.size w w'
end Go.Proofs.YteceghbjjnknbaaGreat

namespace Go.Proofs.YteceghbjjnknbaaGreat
open Go.RowKit Zp
theorem map_take_succ {α β : Type} (f : α → β) (l : List α) (k : Nat) (hk : k < l.length) : (l.map f).take k ++ [f l[k]] = (l.map f).take (k + 1) := by
  rw [List.take_succ_eq_append_getElem (by simpa using hk)]; simp
end Go.Proofs.YteceghbjjnknbaaGreat

namespace Go.Proofs.YteceghbjjnknbaaGreat
open Go.RowKit Zp
def ZeroFrom (p : Nat) [NeZero p] (xs : List Int) (n : Nat) : Prop := ∀ i, n ≤ i → co (els p xs) i = 0
theorem ZeroFrom.start (p : Nat) [NeZero p] (xs : List Int) : ZeroFrom p xs xs.length := fun i hi => co_of_ge (by simpa using hi)
theorem ZeroFrom.next {p : Nat} [NeZero p] {xs : List Int} {n : Nat} (h : ZeroFrom p xs (n + 1)) (h0 : co (els p xs) n = 0) : ZeroFrom p xs n := fun i hi => by
  by_cases he : i = n
  · rw [he]; exact h0
  · exact h i (by omega)
theorem ZeroFrom.done {p : Nat} [NeZero p] {xs : List Int} {n : Nat} (h : ZeroFrom p xs n) (hn : n = 0 ∨ co (els p xs) (n - 1) ≠ 0) : degL (els p xs) = (n : Int) - 1 := by
  unfold degL
  rw [(trimAt_iff_co.2 ⟨h, hn⟩).length]
def DegRel (p : Nat) [NeZero p] (xs : List Int) (i : Value) : Prop := ∃ k : Nat, k ≤ xs.length ∧ i = vi ((k : Int) - 1) ∧ ZeroFrom p xs k
set_option maxHeartbeats 1000000 in
theorem degree_any (p : Nat) [NeZero p] (hp2 : p ≤ 2147483647) (b : Nat) (A : Option Addr) (cap : Nat) (xs : List Int) (hxs : ∀ n ∈ xs, I64 n) (hreach : xs.length * 8 ≤ 281474976710656) (w : World) (hc : w.cell? ⟨b, 0, none⟩ = some (vi p)) (hs : SL w A xs) :
    Calls Tryz.prog 137 #[.pointer (some ⟨b, 0, none⟩), .slice A xs.length cap] w fun e w' => e = .returned (vi (degL (els p xs))) ∧ w = w' := by
  obtain ⟨len, hlen⟩ : ∃ len, len = xs.length := ⟨_, rfl⟩
  rw [← hlen]
  rw [← hlen] at hreach
  have HL := Lib.hid hlen
  clear hlen
  go_enter Tryz.func137, Tryz.ntmps137
  go_wp2
  go_loop [5] (fun i => DegRel p xs i) (fun i => (intOf i + 1).toNat)
  case atStart => exact ⟨len, by rw [HL.out]; exact Nat.le_refl _, rfl, by rw [HL.out]; exact ZeroFrom.start p xs⟩
  case round =>
    obtain ⟨k, hk, rfl, hz⟩ := hrel
    rw [← HL.out] at hk
    have HZ := Lib.hid hz
    clear hz
    by_cases h0 : k = 0
    · subst h0
      have t1 : decide ((0 : Int) ≤ (((0 : Nat) : Int) - 1)) = false := by simp
      go_wp2
      go_ret
      exact ⟨ret_int (HZ.out.done (.inl rfl)).symm, rfl⟩
    · have i0 : (0 : Int) ≤ (k : Int) - 1 := by omega
      have i1 : (1 : Int) ≤ (k : Int) := by omega
      have i2 : ((k : Int) - 1).toNat = k - 1 := by omega
      have hkx : k - 1 < xs.length := by rw [← HL.out]; omega
      obtain ⟨ad, rfl, hab, hcell⟩ := hs.at_ hkx
      have hI := hxs _ (List.getElem_mem hkx)
      have hco : co (els p xs) (k - 1) = el p xs[k - 1] := by rw [co_of_lt (by simpa using hkx)]; simp
      obtain ⟨x, hx⟩ : ∃ x, x = xs[k - 1] := ⟨_, rfl⟩
      rw [← hx] at hI hcell hco
      have hcell' : w.cell? (ad.add ((k : Int) - 1).toNat) = some (vi x) := by rw [i2]; exact hcell
      have HC := Lib.hid hco
      clear hx hco i2
      by_cases hx0 : el p x = 0
      · have t1 : (fv (el p x) == 0) = true := by rw [hx0]; rfl
        have hz2 : ZeroFrom p xs (k - 1) := ZeroFrom.next (by rw [show k - 1 + 1 = k from by omega]; exact HZ.out) (by rw [HC.out]; exact hx0)
        have HZ2 := Lib.hid hz2
        clear hz2 hx0
        go_wp2_with (go_at_call 19; refine (of_el p hp2 b x hI _ hc).mono ?_; rintro e w' ⟨rfl, rfl⟩)
        go_round
        case rel => exact ⟨k - 1, by rw [← HL.out]; omega, by congr 1; omega, HZ2.out⟩
        case measure => simp [intOf]; omega
      · have t1 : (fv (el p x) == 0) = false := by rw [beq_eq_false_iff_ne]; exact fun h => hx0 (fv_eq_zero.1 h)
        have hd := HZ.out.done (.inr (by rw [HC.out]; exact hx0))
        have HD := Lib.hid hd
        clear hd hx0
        go_wp2_with (go_at_call 19; refine (of_el p hp2 b x hI _ hc).mono ?_; rintro e w' ⟨rfl, rfl⟩)
        go_ret
        exact ⟨ret_int HD.out.symm, rfl⟩
end Go.Proofs.YteceghbjjnknbaaGreat

namespace Go.Proofs.YteceghbjjnknbaaGreat
open Go.RowKit Zp
def TrimRel (p : Nat) [NeZero p] (xs : List Int) (n : Nat) (w : World) (v i : Value) (wr : World) : Prop := ∃ k g : Nat, k ≤ n ∧ i = vi k ∧ v = .slice (some ⟨g, 0, none⟩) k n ∧ Own wr w.heap.size v ((fvs (trimL (els p xs))).take k) ∧ Below w.heap.size w wr
set_option maxRecDepth 100000 in
set_option maxHeartbeats 1000000 in
theorem trim_any (p : Nat) [NeZero p] (hp2 : p ≤ 2147483647) (b : Nat) (A : Option Addr) (cap : Nat) (xs : List Int) (hxs : ∀ n ∈ xs, I64 n) (hreach : xs.length * 8 ≤ 281474976710656) (hcap : xs.length ≤ cap) (w : World) (hc : w.cell? ⟨b, 0, none⟩ = some (vi p)) (hs : SL w A xs) :
    Calls Tryz.prog 123 #[.pointer (some ⟨b, 0, none⟩), .slice A xs.length cap] w fun e w' => Made (fvs (trimL (els p xs))) w e w' := by
  have hbl : b < w.heap.size := block_lt_of_cell hc
  have hdeg := degree_any p hp2 b A cap xs hxs hreach w hc hs
  obtain ⟨n, hn⟩ : ∃ n, n = (trimL (els p xs)).length := ⟨_, rfl⟩
  have hnl : n ≤ xs.length := by rw [hn]; have := trimL_length_le (els p xs); simpa using this
  have hd : degL (els p xs) = (n : Int) - 1 := by unfold degL; rw [hn]
  rw [hd] at hdeg
  have HDEG := Lib.hid hdeg
  have hmk := make_ints0 n (by omega)
  have HN := Lib.hid hn
  clear hn hd hdeg
  obtain ⟨len, hlen⟩ : ∃ len, len = xs.length := ⟨_, rfl⟩
  rw [← hlen] at hreach hnl HDEG hcap
  rw [← hlen]
  have HL := Lib.hid hlen
  clear hlen
  go_enter Tryz.func123, Tryz.ntmps123
  go_wp2_with fail
  refine (HDEG.out).mono ?_
  rintro e w' ⟨rfl, rfl⟩
  go_wp2
  go_loopw [6, 8, 19] (fun v _ i wr => TrimRel p xs n w v i wr) (fun _ _ i _ => n - (intOf i).toNat)
  case atStart => exact ⟨0, w.heap.size, Nat.zero_le _, rfl, rfl, own_made0 w _ n (Nat.le_refl _) (by omega), (Below.refl _ _).alloc (Nat.le_refl _) _⟩
  case round =>
    obtain ⟨k, g, hk, rfl, rfl, hown, hb⟩ := hrel
    by_cases hlt : k < n
    · have hkx : k < xs.length := by rw [← HL.out]; omega
      have hcr : wr.cell? ⟨b, 0, none⟩ = some (vi p) := (hb.cell (p := ⟨b, 0, none⟩) hbl).trans hc
      obtain ⟨ad, rfl, hab, hcell⟩ := (hs.below hb).at_ hkx
      have hI := hxs _ (List.getElem_mem hkx)
      obtain ⟨x, hx⟩ : ∃ x, x = xs[k] := ⟨_, rfl⟩
      rw [← hx] at hI hcell
      have htl : k < (trimL (els p xs)).length := by rw [← HN.out]; exact hlt
      have h2 := map_take_succ fv (trimL (els p xs)) k htl
      have h3 : (trimL (els p xs))[k] = el p x := by
        rw [← co_of_lt htl, co_trim, co_of_lt (by simpa using hkx), List.getElem_map, hx]
      rw [h3] at h2
      have H2 := Lib.hid h2
      have hll : ((fvs (trimL (els p xs))).take k).length = k := by rw [List.length_take, List.length_map]; omega
      have HLL := Lib.hid hll
      clear hx h2 h3 hll
      go_wp2_with (first | (go_at_call 19; refine (of_el p hp2 b x hI _ hcr).mono ?_; rintro e w' ⟨rfl, rfl⟩) | (at_builtin; refine wpList_app1_fits w' (fv (el p x)) rfl _ _ rfl w.heap.size g k n _ rfl rfl hown HLL.out.symm hlt ?_; intro w1 hown1 hg))
      go_roundw
      case rel => exact ⟨k + 1, g, by omega, by go_num, rfl, by rw [← H2.out]; exact hown1, hb.grown hg hb.size (fun j hj => by injection hj with hj; subst hj; exact (hown.lt g rfl).1)⟩
      case measure => simp [intOf]; omega
    · obtain rfl : k = n := by omega
      go_wp2
      go_ret
      rw [List.take_of_length_le (by simp; rw [HN.out]; exact Nat.le_refl _)] at hown
      exact ⟨_, rfl, hown, hb⟩
end Go.Proofs.YteceghbjjnknbaaGreat

namespace Go.Proofs.YteceghbjjnknbaaGreat
section
variable {P : Program}
theorem quiet_eq {f : FuncId} {args : Array Value} {w : World} {n : Nat} {v : Value} (h : Calls P f args (w.drewN n) fun e w' => e = .returned v ∧ w.drewN n = w') : Calls P f args (w.drewN n) fun e w'' => e = .returned v ∧ ∃ m, w'' = w.drewN m :=
  h.mono fun _ _ ⟨he, hm⟩ => ⟨he, n, hm.symm⟩
theorem rowsIn_of_rows {n : Nat} {row : String} {args : Array Value} {w : World} {R : Value → World → Prop} {l : Nat} (h : Rows P row args w R) : RowsIn (Fence.wide.inRound l) n P row args w R :=
  fun c cs _ => let ⟨v, w', r, s⟩ := h c cs; ⟨v, w', r, stepsIn_wide.2 s⟩
theorem operIn_of_wp {o : Oper} {a : Act} {w : World} {K : Act → World → Prop} {Q : Exit → Act → World → Prop} {l n : Nat} (hd : ∀ c, o.op ≠ .defer c) (h : o.wp P a w K Q) : o.wpIn (Fence.wide.inRound l) n P a w K Q := by
  refine ⟨fun _ _ => trivial, ?_⟩
  rw [Oper.semAt_eq _ _ _ hd]
  unfold Oper.wp at h
  generalize (execOp a.eval o).run P w = r at *
  cases r with
  | ok x w' =>
    cases x <;> simp only [Oper.upon] at h <;> simp only [Oper.uponIn] <;>
      first
        | exact h
        | exact ⟨(by intro hh; cases hh), CallsIn.inRound l (callsIn_wide.2 h)⟩
        | exact ⟨(by intro hh; cases hh), rowsIn_of_rows h⟩
  | halt x w' => cases x <;> simp only [Oper.upon] at h <;> simp only [Oper.uponIn] <;> exact h
def noDefer (ops : Array Oper) : Bool := ops.all fun o => match o.op with | .defer _ => false | _ => true
theorem noDefer_spec {ops : Array Oper} (h : noDefer ops = true) {i : Nat} {o : Oper} (hi : ops[i]? = some o) : ∀ c, o.op ≠ .defer c := by
  intro c hc
  have hm := Array.mem_of_getElem? hi
  have := (Array.all_eq_true'.1 h) o hm
  rw [hc] at this
  cases this
theorem anyIn_of_any {md : Region.Mode} {ops : Array Oper} {Q : Exit → Act → World → Prop} {l n : Nat} (hd : noDefer ops = true) (hlo : ¬ LetsOut Q) :
    ∀ (fuel : Nat) (listed : Array Bool) (a : Act) (w : World), wpAny P md ops Q fuel listed a w → wpAnyIn (Fence.wide.inRound l) n P md ops Q fuel listed a w := by
  intro fuel
  induction fuel with
  | zero => intro listed a w h; exact h
  | succ fuel ih =>
    intro listed a w h
    refine ⟨h.1, fun i hi => ?_⟩
    have h2 := h.2 i hi
    unfold wpOp at h2
    unfold wpOpIn
    split
    · rename_i hn; simp only [hn] at h2; exact ih _ _ _ h2
    · rename_i o ho
      simp only [ho] at h2
      split
      · rename_i hw
        rw [if_pos hw] at h2
        rcases h2 with h2 | h2
        · exact Oper.wpIn_mono (fun a w => ih _ a w) (operIn_of_wp (noDefer_spec hd ho) h2)
        · exact absurd h2.2 hlo
      · rename_i hw
        rw [if_neg hw] at h2
        exact ⟨fun _ _ => trivial, ih _ _ _ h2⟩
section
variable {ops : Array Oper} {md : Region.Mode} {C : World → Prop}
def wpAnyQL (P : Program) (md : Region.Mode) (ops : Array Oper) (C : World → Prop) (n : Nat) (L : Array Bool → Act → Prop) : Nat → Array Bool → Act → Prop
  | 0, listed, a => L listed a
  | f + 1, listed, a =>
    Region.ready md ops listed ≠ [] ∧ ∀ i ∈ Region.ready md ops listed, i < n ∧ qOp P ops C i (wpAnyQL P md ops C n L f (listed.setIfInBounds i true)) a
theorem wpAny_of_headQ {n g : Nat} {L : Array Bool → Act → Prop} {Q' : Exit → Act → World → Prop} (hL : ∀ listed a w, C w → L listed a → wpAny P md ops Q' g listed a w) :
    ∀ (f : Nat) (listed : Array Bool) (a : Act) (w : World), C w → wpAnyQL P md ops C n L f listed a → wpAny P md ops Q' (f + g) listed a w
  | 0, listed, a, w, hw, h => by rw [Nat.zero_add]; exact hL _ _ _ hw h
  | f + 1, listed, a, w, hw, h => by
    rw [show f + 1 + g = (f + g) + 1 by omega]
    exact ⟨fun h0 => absurd h0 h.1, fun i hi => wpOp_of_qOp hw (fun a' w' hw' h' => wpAny_of_headQ hL f _ a' w' hw' h') (h.2 i hi).2⟩
theorem wpAnyQL_first {n i : Nat} {oi : Oper} {v : Value} {L : Array Bool → Act → Prop} (hi : ops[i]? = some oi) (hsel : ∀ (j : Nat) (o : Oper) cs b, ops[j]? = some o → o.op ≠ .select cs b)
    (hs : Region.sinkB md ops n = true) (hc : Region.chainB md ops n = true) (hn : n < ops.size) (hin : i < n)
    (hdone : ∀ listed a, L listed a → ∀ j ∈ Region.ready md ops listed, n ≤ j) :
    ∀ (f : Nat) (listed : Array Bool) (a : Act), HeadInv md ops n listed →
      (∀ j oj, ops[j]? = some oj → j ≠ i → listed.getD j true = false → (∀ e ∈ oj.after, Region.binds md e = true → e.on ≠ i) → oi.apart ops oj = true) →
      i ∈ Region.ready md ops listed → YieldsIn P ops C oi v a →
      wpAnyQL P md ops C n L f (listed.setIfInBounds i true) (a.put oi.dst v) → wpAnyQL P md ops C n L (f + 1) listed a := by
  intro f
  induction f with
  | zero =>
    intro listed a inv _ hr hy H
    have hun := (mem_ready.1 hr).1
    refine ⟨fun h => (by rw [h] at hr; cases hr), fun j hj => ?_⟩
    have hjn : j < n := by
      rcases Nat.lt_or_ge j n with h | h
      · exact h
      · exact absurd hj (tail_waits hs hc hn inv _ i rfl hin hun j h)
    refine ⟨hjn, ?_⟩
    by_cases hji : j = i
    · subst hji; exact hy.qOp hi H
    · have := hdone _ _ H j (ready_mono hj hji)
      omega
  | succ f ih =>
    intro listed a inv hfree hr hy H
    have hun := (mem_ready.1 hr).1
    refine ⟨fun h => (by rw [h] at hr; cases hr), fun j hj => ?_⟩
    have hjn : j < n := by
      rcases Nat.lt_or_ge j n with h | h
      · exact h
      · exact absurd hj (tail_waits hs hc hn inv _ i rfl hin hun j h)
    refine ⟨hjn, ?_⟩
    by_cases hji : j = i
    · subst hji; exact hy.qOp hi H
    · have h1 := (H.2 j (ready_mono hj hji)).2
      obtain ⟨hjun, oj, hoj, hall⟩ := mem_ready.1 hj
      have hnot : ∀ e ∈ oj.after, Region.binds md e = true → e.on ≠ i := fun e he hb heq => by
        have h1 := hall e he hb
        rw [heq, getD_both hun] at h1
        cases h1
      have h2 := qOp_put hoj (hfree j oj hoj hji hjun hnot) (fun cs b => hsel i oi cs b hi) (fun cs b => hsel j oj cs b hoj) hy h1
      have hfree' : ∀ k ok, ops[k]? = some ok → k ≠ i → (listed.setIfInBounds j true).getD k true = false →
          (∀ e ∈ ok.after, Region.binds md e = true → e.on ≠ i) → oi.apart ops ok = true := fun k ok hk hki hun hno => by
        refine hfree k ok hk hki ?_ hno
        by_cases hjk : j = k
        · subst hjk; exact hjun
        · rw [getD_set_ne true hjk] at hun; exact hun
      refine qOp_mono (fun a' h3 => ih (listed.setIfInBounds j true) a' (inv.set hj hjn) hfree' (ready_mono hr (Ne.symm hji)) h3.1 ?_) h2
      rw [Array.setIfInBounds_comm _ _ hji]
      exact h3.2
theorem wpAnyQL_lex {n g : Nat} {Lq : Act → Prop} (hsel : Region.noSelect ops = true) (hs : Region.sinkB md ops n = true) (hc : Region.chainB md ops n = true) (hn : n < ops.size) :
    ∀ (l : List Oper) (k : Nat) (listed : Array Bool) (a : Act), (∀ j, j < l.length → l[j]? = ops[k + j]?) → k + l.length = n → HeadInv md ops n listed →
    Region.lexHead md ops g l.length k listed = true → wpQuiet P ops C Lq l a →
    wpAnyQL P md ops C n (fun listed' a' => Region.seqB md ops g n listed' = true ∧ Lq a') l.length listed a
  | [], k, listed, a, _, hk, _, hB, h => by
    have : k = n := by simpa using hk
    subst this
    exact ⟨by simpa [Region.lexHead] using hB, h⟩
  | o :: l, k, listed, a, hl, hk, inv, hB, h => by
    have h0 : ops[k]? = some o := by simpa using (hl 0 (by simp)).symm
    simp only [List.length_cons, Region.lexHead, Bool.and_eq_true] at hB
    obtain ⟨⟨hr, hf⟩, hB'⟩ := hB
    have hkn : k < n := by simp only [List.length_cons] at hk; omega
    have hr' : k ∈ Region.ready md ops listed := by simpa using hr
    have hst : qOp P ops C k (wpQuiet P ops C Lq l) a := by unfold qOp; simp only [h0]; exact h
    obtain ⟨v, hy, hK⟩ := yieldsIn_of_qOp h0 hst
    exact wpAnyQL_first h0 (Region.noSelect_spec hsel) hs hc hn hkn (fun listed' a' hL => seqB_ready hL.1) l.length listed a inv (Region.free_spec h0 hf) hr' hy
      (wpAnyQL_lex hsel hs hc hn l (k + 1) _ _ (fun j hj => by have := hl (j + 1) (by simp; omega); simpa [Nat.add_assoc, Nat.add_comm 1 j] using this) (by simp only [List.length_cons] at hk; omega) (inv.set hr' hkn) hB' hK)
theorem wpAny_quiet_tail {Q : Exit → Act → World → Prop} {a : Act} {w : World} {l : List Oper} (n : Nat) (hB : Region.lexTailB .any l.toArray n = true)
    (h : wpQuiet P l.toArray (fun w' => ∃ n, w' = w.drewN n) (fun a' => ∀ w', (∃ n, w' = w.drewN n) → wpList P l.toArray Q (l.drop n) a' w') (l.take n) a) :
    wpAny P .any l.toArray Q l.toArray.size (Array.replicate l.toArray.size false) a { w with drawn := w.drawn + 1 } := by
  simp only [Region.lexTailB, Bool.and_eq_true, decide_eq_true_eq] at hB
  obtain ⟨⟨⟨⟨hsel, hn⟩, hs⟩, hc⟩, hlex⟩ := hB
  have hn' : n < l.length := by simpa using hn
  have htl : (l.take n).length = n := by simp; omega
  have hdl : (l.drop n).length = l.toArray.size - n := by simp
  have inv0 : HeadInv .any l.toArray n (Array.replicate l.toArray.size false) :=
    ⟨by simp, fun j oj _ hl => (by rw [getD_replicate_false] at hl; cases hl), fun t _ ht => getD_in (by simpa using ht) (getD_replicate_false _ _)⟩
  have H := wpAnyQL_lex (md := .any) (g := l.toArray.size - n) hsel hs hc hn (l.take n) 0 _ a (fun j hj => by
    have hj' : j < n := by rw [htl] at hj; exact hj
    simp [hj']) (by simpa using htl) inv0 (by rw [htl]; exact hlex) h
  have := wpAny_of_headQ (Q' := Q) (g := l.toArray.size - n) (fun listed a' w' hw' hL => by
    have := wpAny_of_seq (md := .any) (Q' := Q) (l.drop n) n listed a' w' (fun j => by simp [List.getElem?_drop]) (by rw [hdl]; exact hL.1) (hL.2 w' hw')
    rwa [hdl] at this) _ _ _ { w with drawn := w.drawn + 1 } ⟨1, rfl⟩ H
  rw [htl, show n + (l.toArray.size - n) = l.toArray.size by omega] at this
  exact this
theorem wp_region_quiet_tail {id : Nat} {Q : Exit → Act → World → Prop} {a : Act} {w : World} {l : List Oper} (n : Nat) (hm : P.follows .mixedOrders = true) (hB : Region.lexTailB .any l.toArray n = true)
    (h : wpQuiet P l.toArray (fun w' => ∃ n, w' = w.drewN n) (fun a' => ∀ w', (∃ n, w' = w.drewN n) → wpList P l.toArray Q (l.drop n) a' w') (l.take n) a) : (Code.region id l.toArray true).wp P Q a w :=
  wp_region_any hm (wpAny_quiet_tail n hB h)
theorem wpIn_region_quiet_tail {id : Nat} {Q : Exit → Act → World → Prop} {a : Act} {w : World} {l : List Oper} {lp m : Nat} (n : Nat) (hm : P.follows .mixedOrders = true) (hd : noDefer l.toArray = true) (hlo : ¬ LetsOut Q) (hB : Region.lexTailB .any l.toArray n = true)
    (h : wpQuiet P l.toArray (fun w' => ∃ n, w' = w.drewN n) (fun a' => ∀ w', (∃ n, w' = w.drewN n) → wpList P l.toArray Q (l.drop n) a' w') (l.take n) a) : (Code.region id l.toArray true).wpIn (Fence.wide.inRound lp) m P Q a w :=
  wpIn_region_any hm (anyIn_of_any hd hlo _ _ _ _ (wpAny_quiet_tail n hB h))
end
end
end Go.Proofs.YteceghbjjnknbaaGreat

namespace Go.Proofs.YteceghbjjnknbaaGreat
open Go.RowKit Zp
def OwnE {p : Nat} (wr : World) (base g n : Nat) (L : List (Fin p)) : Prop := L.length = n ∧ Own wr base (.slice (some ⟨g, 0, none⟩) n n) (fvs L)
theorem OwnE.at_ {p : Nat} [NeZero p] {wr : World} {base g n : Nat} {L : List (Fin p)} (h : OwnE wr base g n L) (j : Nat) (hj : j < n) : wr.cell? ⟨g, j, none⟩ = some (vi (fv (co L j))) := by
  have hl := h.1
  have := Own.at_ h.2 (by simp [hl]) j (by simp [hl]; omega)
  rw [this, co_of_lt (by omega), List.getElem_map]
theorem OwnE.frozen {p : Nat} {wr : World} {base g n : Nat} {L : List (Fin p)} (h : OwnE wr base g n L) (j : Nat) : wr.frozen? ⟨g, j, none⟩ = false := Own.frozen_ h.2 (by simp [h.1]) j
theorem OwnE.store {p : Nat} {wr : World} {base g n : Nat} {L : List (Fin p)} (h : OwnE wr base g n L) (j : Nat) (x : Fin p) : OwnE (wr.setCell ⟨g, j, none⟩ (vi (fv x))) base g n (L.set j x) := by
  refine ⟨by simp [h.1], ?_⟩
  have := Own.store h.2 (by simp [h.1]) j (fv x)
  rwa [← List.map_set] at this
theorem OwnE.made {p : Nat} [NeZero p] (w : World) (base n : Nat) (hb : base ≤ w.heap.size) (hc : n * 8 ≤ 281474976710656) : OwnE (p := p) (w.alloc (.cells (zeros n) 3)) base w.heap.size n (List.replicate n 0) := by
  refine ⟨by simp, ?_⟩
  have := own_made w base n hb hc
  rwa [show List.replicate n (0 : Int) = fvs (List.replicate n (0 : Fin p)) from by simp [fv_zero]] at this
theorem OwnE.lt {p : Nat} {wr : World} {base g n : Nat} {L : List (Fin p)} (h : OwnE wr base g n L) : base ≤ g ∧ g < wr.heap.size := h.2.lt g rfl
theorem OwnE.sl {p : Nat} {wr : World} {base g n : Nat} {L : List (Fin p)} (h : OwnE wr base g n L) : SL wr (some ⟨g, 0, none⟩) (fvs L) := by
  obtain ⟨A, c, h1, h2⟩ := h.2.len
  injection h1 with h1 _ _
  rw [h1]; exact h2
theorem co_set {p : Nat} [NeZero p] (L : List (Fin p)) (j : Nat) (x : Fin p) (hj : j < L.length) (m : Nat) : co (L.set j x) m = if m = j then x else co L m := by
  unfold co
  rw [List.getElem?_set]
  by_cases h : m = j
  · subst h; rw [if_pos rfl, if_pos rfl, if_pos hj]; rfl
  · rw [if_neg (fun e => h e.symm), if_neg h]
theorem co_replicate {p : Nat} [NeZero p] (n m : Nat) : co (List.replicate n (0 : Fin p)) m = 0 := by
  unfold co
  rw [List.getElem?_replicate]
  split <;> rfl
theorem i64_fvs {p : Nat} (L : List (Fin p)) (hp2 : p ≤ 2147483647) : ∀ n ∈ fvs L, I64 n := by
  intro n hn
  obtain ⟨x, _, rfl⟩ := List.mem_map.1 hn
  exact i64_fv x hp2
end Go.Proofs.YteceghbjjnknbaaGreat

namespace Go.Proofs.YteceghbjjnknbaaGreat
open Go.RowKit Zp
end Go.Proofs.YteceghbjjnknbaaGreat

namespace Go.Proofs.YteceghbjjnknbaaGreat
open Go.RowKit Zp
theorem genN_lt {p : Nat} [NeZero p] (hp : IsPrime p) : genN p < p := (genN_is hp).2.1
set_option maxHeartbeats 1000000 in
theorem root_any (p : Nat) [NeZero p] (S b : Nat) (n : Int) (hn : I64 n) (w : World) (F : Fld w S b p) :
    Calls Tryz.prog 20 #[.pointer (some ⟨b, 0, none⟩), vi n] w fun e w' => e = .returned (vi (fv (rootI p n))) ∧ ∃ k, w' = w.drewN k := by
  have hc0 := F.c0
  have hc2 := F.c2
  have hp1 := F.two
  have hp2 := F.max
  have hg := genN_lt F.prime
  obtain ⟨hn1, hn2⟩ := hn
  obtain ⟨g, hgg⟩ : ∃ g, g = genN p := ⟨_, rfl⟩
  rw [← hgg] at hc2 hg
  have HG := Lib.hid hgg
  clear hgg F
  by_cases h0 : n ≤ 0
  · have hr := rootI_no (p := p) (n := n) (by omega)
    have HR := Lib.hid hr
    clear hr
    go_enter Tryz.func20, Tryz.ntmps20
    go_wp2
    go_ret
    exact ⟨ret_int (by rw [HR.out, fv_zero]), 0, rfl⟩
  · have hnz : ¬ n = 0 := by omega
    have hp0 : (0 : Int) ≤ (p : Int) - 1 := by omega
    have et : ((p : Int) - 1).tmod n = ((p : Int) - 1) % n := Int.tmod_eq_emod_of_nonneg hp0
    have eq_ : ((p : Int) - 1).tdiv n = ((p : Int) - 1) / n := Int.tdiv_eq_ediv_of_nonneg hp0
    by_cases hd : ((p : Int) - 1) % n = 0
    · have t1 : (((p : Int) - 1) % n != 0) = false := by rw [hd]; rfl
      have hr : rootI p n = pw (el p (g : Int)) (((p : Int) - 1) / n).toNat := by rw [rootI, if_pos ⟨by omega, hd⟩, HG.out]
      have HR := Lib.hid hr
      have d1 : 0 ≤ ((p : Int) - 1) / n := Int.ediv_nonneg hp0 (by omega)
      have d2 : ((p : Int) - 1) / n ≤ (p : Int) - 1 := Int.ediv_le_self _ hp0
      have hdI : I64 (((p : Int) - 1) / n) := ⟨by omega, by omega⟩
      have hgI : I64 (g : Int) := ⟨by omega, by omega⟩
      have HD := Lib.hid hd
      have d3 : IntKind.i64.wrap (((p : Int) - 1).tdiv n) = ((p : Int) - 1) / n := by rw [eq_]; exact IntWalk.i64_in _ hdI
      clear hd hr
      go_enter Tryz.func20, Tryz.ntmps20
      go_wp2
      go_quiet ((go_at_call 60; exact quiet_eq (power_any p hp1 hp2 b g _ hgI hdI d1 _ (by exact hc0))))
      go_wp2
      go_ret
      exact ⟨ret_int (by rw [HR.out]), _, rfl⟩
    · have t1 : (((p : Int) - 1) % n != 0) = true := by rw [bne_iff_ne]; exact hd
      have hr := rootI_no (p := p) (n := n) (by rintro ⟨_, h⟩; exact hd h)
      have HR := Lib.hid hr
      clear hr hd eq_
      go_enter Tryz.func20, Tryz.ntmps20
      go_wp2
      go_ret
      exact ⟨ret_int (by rw [HR.out, fv_zero]), 0, rfl⟩
end Go.Proofs.YteceghbjjnknbaaGreat

namespace Go.Proofs.YteceghbjjnknbaaGreat
open Go.RowKit Zp
def SizeOk (p n : Nat) : Prop := (∃ k, k ≤ 16 ∧ n = 2 ^ k) ∧ n ∣ p - 1
theorem SizeOk.pos {p n : Nat} (h : SizeOk p n) : 0 < n := by
  obtain ⟨⟨k, _, rfl⟩, _⟩ := h
  exact Nat.pow_pos (by omega)
theorem SizeOk.le {p n : Nat} (h : SizeOk p n) : n ≤ 65536 := by
  obtain ⟨⟨k, hk, rfl⟩, _⟩ := h
  exact Nat.pow_le_pow_right (n := 2) (by omega) hk
theorem sizeOk_of {p n : Nat} (h1 : 1 ≤ n) (h2 : n ≤ 65536) (h3 : (n &&& (n - 1)) = 0) (h4 : n ∣ p - 1) : SizeOk p n := by
  obtain ⟨k, rfl⟩ := (two_pow_iff n h1).1 h3
  refine ⟨⟨k, ?_, rfl⟩, h4⟩
  false_or_by_contra
  rename_i hk
  have : 2 ^ 17 ≤ 2 ^ k := Nat.pow_le_pow_right (by omega) (by omega)
  omega
theorem SizeOk.and {p n : Nat} (h : SizeOk p n) : (n &&& (n - 1)) = 0 := (two_pow_iff n h.pos).2 (let ⟨⟨k, _, e⟩, _⟩ := h; ⟨k, e⟩)
structure Dom (w : World) (S D b p : Nat) [NeZero p] (n : Nat) (s : Fin p) : Prop where
  fld : Fld w S b p
  lt : D < S
  c0 : w.cell? ⟨D, 0, none⟩ = some (.pointer (some ⟨b, 0, none⟩))
  c1 : w.cell? ⟨D, 1, none⟩ = some (vi n)
  c2 : w.cell? ⟨D, 2, none⟩ = some (vi (fv s))
  c3 : w.cell? ⟨D, 3, none⟩ = some (vi (fv (rootI p n)))
  s0 : s ≠ 0
  size : SizeOk p n
section
variable {w w' : World} {S D b p n : Nat} [NeZero p] {s : Fin p}
theorem Dom.keep (h : Dom w S D b p n s) (hk : ∀ q : Addr, q.block < S → w'.cell? q = w.cell? q) (hs : w.heap.size ≤ w'.heap.size) : Dom w' S D b p n s :=
  ⟨h.fld.keep hk hs, h.lt, (hk _ h.lt).trans h.c0, (hk _ h.lt).trans h.c1, (hk _ h.lt).trans h.c2, (hk _ h.lt).trans h.c3, h.s0, h.size⟩
theorem Dom.below (h : Dom w S D b p n s) {B : Nat} (hb : Below B w w') (hS : S ≤ B) : Dom w' S D b p n s := h.keep (fun q hq => hb.cell (by omega)) hb.size
theorem Dom.drewN (h : Dom w S D b p n s) (k : Nat) : Dom (w.drewN k) S D b p n s := h.keep (fun _ _ => rfl) (Nat.le_refl _)
theorem Dom.alloc (h : Dom w S D b p n s) (o : Obj) : Dom (w.alloc o) S D b p n s := h.keep (fun q hq => World.cell?_alloc_lt w o q (by have := h.fld.le; omega)) (by simp)
theorem Dom.le (h : Dom w S D b p n s) : S ≤ w.heap.size := h.fld.le
end
theorem and_pred (n : Nat) (h1 : 1 ≤ n) (h2 : n ≤ 65536) : bits .and .i64 (n : Int) ((n : Int) - 1) = ((n &&& (n - 1) : Nat) : Int) := by
  have e : (n : Int) - 1 = ((n - 1 : Nat) : Int) := by omega
  rw [e]
  exact i64_and_nat n (n - 1) (by omega) (by omega)
abbrev NoDom (k : Int) : Ending := .returned (.tuple #[.pointer none, .iface 71 (.int .i64 k)])
theorem dnew_size1 (b : Nat) (n t : Int) (h : n < 1 ∨ 65536 < n) (w : World) : Calls Tryz.prog 7 #[.pointer (some ⟨b, 0, none⟩), vi n, vi t] w fun e w' => e = NoDom 2 ∧ w = w' := by
  by_cases h1 : n < 1
  · clear h
    go_enter Tryz.func7, Tryz.ntmps7
    go_wp2
    go_ret2
    exact ⟨rfl, rfl⟩
  · have h2 : 65536 < n := by omega
    clear h
    go_enter Tryz.func7, Tryz.ntmps7
    go_wp2
    go_ret2
    exact ⟨rfl, rfl⟩
theorem dnew_size2 (p b : Nat) (n : Nat) (t : Int) (h1 : 1 ≤ n) (h2 : n ≤ 65536) (hp1 : 2 ≤ p) (hp2 : p ≤ 2147483647) (h : ¬ SizeOk p n) (w : World) (hc : w.cell? ⟨b, 0, none⟩ = some (vi p)) :
    Calls Tryz.prog 7 #[.pointer (some ⟨b, 0, none⟩), vi n, vi t] w fun e w' => e = NoDom 2 ∧ w = w' := by
  have ha := and_pred n h1 h2
  by_cases h3 : (n &&& (n - 1)) = 0
  · have hd : ¬ n ∣ p - 1 := fun hd => h (sizeOk_of h1 h2 h3 hd)
    have t1 : (bits .and .i64 (n : Int) ((n : Int) - 1) != 0) = false := by rw [ha, h3]; rfl
    have e1 : ((p : Int) - 1) = ((p - 1 : Nat) : Int) := by omega
    have t2 : (((p : Int) - 1) % (n : Int) != 0) = true := by
      rw [bne_iff_ne, e1, ← Int.natCast_emod]
      intro h0
      exact hd (Nat.dvd_of_mod_eq_zero (by omega))
    clear h ha h3 hd e1
    go_enter Tryz.func7, Tryz.ntmps7
    go_wp2_with fail
    refine (p_any p b _ hc).mono ?_
    rintro e w' ⟨rfl, rfl⟩
    go_wp2
    go_ret2
    exact ⟨rfl, rfl⟩
  · have t1 : (bits .and .i64 (n : Int) ((n : Int) - 1) != 0) = true := by rw [ha, bne_iff_ne]; omega
    clear h ha h3
    go_enter Tryz.func7, Tryz.ntmps7
    go_wp2
    go_ret2
    exact ⟨rfl, rfl⟩
structure SizeTests (p n : Nat) : Prop where
  t1 : (bits .and .i64 (n : Int) ((n : Int) - 1) != 0) = false
  t2 : (((p : Int) - 1) % (n : Int) != 0) = false
  h1 : 1 ≤ n
  h2 : n ≤ 65536
theorem sizeTests {p n : Nat} (hp1 : 2 ≤ p) (h : SizeOk p n) : SizeTests p n := by
  have h1 := h.pos
  have h2 := h.le
  refine ⟨by rw [and_pred n h1 h2, h.and]; rfl, ?_, h1, h2⟩
  have e1 : ((p : Int) - 1) = ((p - 1 : Nat) : Int) := by omega
  rw [e1, ← Int.natCast_emod, Nat.mod_eq_zero_of_dvd h.2]; rfl
theorem dnew_shift (p b : Nat) [NeZero p] (n : Nat) (t : Int) (ht : I64 t) (hp1 : 2 ≤ p) (hp2 : p ≤ 2147483647) (h : SizeOk p n) (h0 : el p t = 0) (w : World) (hc : w.cell? ⟨b, 0, none⟩ = some (vi p)) :
    Calls Tryz.prog 7 #[.pointer (some ⟨b, 0, none⟩), vi n, vi t] w fun e w' => e = NoDom 3 ∧ w = w' := by
  obtain ⟨t1, t2, h1, h2⟩ := sizeTests hp1 h
  have t3 : (fv (el p t) == 0) = true := by rw [h0]; rfl
  clear h h0
  go_enter Tryz.func7, Tryz.ntmps7
  go_wp2_with fail
  refine (p_any p b _ hc).mono ?_
  rintro e w' ⟨rfl, rfl⟩
  go_wp2_with fail
  refine (of_el p hp2 b t ht _ hc).mono ?_
  rintro e w' ⟨rfl, rfl⟩
  go_wp2
  go_ret2
  exact ⟨rfl, rfl⟩
def MadeDom (p b n : Nat) [NeZero p] (t : Int) (w : World) (e : Ending) (w' : World) : Prop :=
  ∃ D : Nat, e = .returned (.tuple #[.pointer (some ⟨D, 0, none⟩), .nilIface]) ∧ Dom w' w'.heap.size D b p n (el p t) ∧ Below w.heap.size w w' ∧ w.heap.size ≤ D
set_option maxHeartbeats 1000000 in
theorem dnew_ok (p S b : Nat) [NeZero p] (n : Nat) (t : Int) (ht : I64 t) (h : SizeOk p n) (h0 : el p t ≠ 0) (w : World) (F : Fld w S b p) :
    Calls Tryz.prog 7 #[.pointer (some ⟨b, 0, none⟩), vi n, vi t] w fun e w' => MadeDom p b n t w e w' := by
  have hp1 := F.two
  have hp2 := F.max
  have hc := F.c0
  obtain ⟨t1, t2, h1, h2⟩ := sizeTests hp1 h
  have t3 : (fv (el p t) == 0) = false := by rw [beq_eq_false_iff_ne]; exact fun e => h0 (fv_eq_zero.1 e)
  have hn : I64 (n : Int) := ⟨by omega, by omega⟩
  have H := Lib.hid h
  have H0 := Lib.hid h0
  clear h h0
  go_enter Tryz.func7, Tryz.ntmps7
  go_wp2_with fail
  refine (p_any p b _ hc).mono ?_
  rintro e w' ⟨rfl, rfl⟩
  go_wp2_with fail
  refine (of_el p hp2 b t ht _ hc).mono ?_
  rintro e w' ⟨rfl, rfl⟩
  go_wp2_with fail
  refine (of_el p hp2 b t ht _ hc).mono ?_
  rintro e w' ⟨rfl, rfl⟩
  go_wp2_with fail
  refine (root_any p S b n hn _ F).mono ?_
  rintro e w' ⟨rfl, k, rfl⟩
  go_wp2
  go_ret2
  have hB := Blk.new (w'.drewN k) 74 #[.pointer (some ⟨b, 0, none⟩), vi n, vi (fv (el p t)), vi (fv (rootI p n))]
  have F' := (F.drewN k).alloc (.cells #[.pointer (some ⟨b, 0, none⟩), vi n, vi (fv (el p t)), vi (fv (rootI p n))] 74)
  have hle := F.le
  refine ⟨_, rfl, ⟨⟨F'.prime, F'.three, F'.max, by simp; have := F.lt; omega, Nat.le_refl _, F'.c0, ?_, F'.c2⟩, by simp, (hB.cell 0).trans rfl, (hB.cell 1).trans rfl, (hB.cell 2).trans rfl, (hB.cell 3).trans rfl, H0.out, H.out⟩, (below_drewN (Below.refl _ _) k).alloc (Nat.le_refl _) _, Nat.le_refl _⟩
  obtain ⟨A, c, fs, f1, f2, f3, f4⟩ := F'.c1
  exact ⟨A, c, fs, f1, f2, f3, f4.more (by simp; omega)⟩
theorem size_any (D n : Nat) (w : World) (hc : w.cell? ⟨D, 1, none⟩ = some (vi n)) :
    Calls Tryz.prog 45 #[.pointer (some ⟨D, 0, none⟩)] w fun e w' => e = .returned (vi n) ∧ w = w' := by
  go_enter Tryz.func45, Tryz.ntmps45
  go_wp2
  go_ret
  exact ⟨rfl, rfl⟩
theorem dfield_any (D b : Nat) (w : World) (hc : w.cell? ⟨D, 0, none⟩ = some (.pointer (some ⟨b, 0, none⟩))) :
    Calls Tryz.prog 93 #[.pointer (some ⟨D, 0, none⟩)] w fun e w' => e = .returned (.pointer (some ⟨b, 0, none⟩)) ∧ w = w' := by
  go_enter Tryz.func93, Tryz.ntmps93
  go_wp2
  go_ret
  exact ⟨rfl, rfl⟩
end Go.Proofs.YteceghbjjnknbaaGreat

namespace Go.Proofs.YteceghbjjnknbaaGreat
open Go.RowKit Zp
def SpreadTo (p : Nat) [NeZero p] (base m : Nat) (xs : List Int) (r : Fin p) (w : World) (e : Ending) (w' : World) : Prop :=
  ∃ v' ys, e = .returned v' ∧ Own w' base v' ys ∧ (∀ y ∈ ys, I64 y) ∧ els p ys = dft r m (els p xs) ∧ (m = 1 → ys = xs) ∧ (m ≠ 1 → ys = fvs (dft r m (els p xs))) ∧ Below w.heap.size w w'
def SpreadSpec (p S D b : Nat) [NeZero p] (n : Nat) (s : Fin p) (m : Nat) : Prop :=
  ∀ (w : World) (base : Nat) (v : Value) (xs : List Int) (r : Int), xs.length = m → (∀ x ∈ xs, I64 x) → I64 r → (m = 1 ∨ ∃ h, m = 2 * h ∧ pw (el p r) h = -1) → Dom w S D b p n s → Own w base v xs → base ≤ w.heap.size →
    Calls Tryz.prog 111 #[.pointer (some ⟨D, 0, none⟩), v, vi r] w fun e w' => SpreadTo p base m xs (el p r) w e w'
theorem dft_one {p : Nat} [NeZero p] (r x : Fin p) : dft r 1 [x] = [x] := by
  have : ev [x] (pw r 0) = x := by simp only [ev, pw_zero]; grind
  unfold dft tab
  rw [List.range_one, List.map_singleton, this]
theorem spread_one (p S D b : Nat) [NeZero p] (n : Nat) (s : Fin p) : SpreadSpec p S D b n s 1 := by
  intro w base v xs r hl hx hr _ hD ho hb
  obtain ⟨g, c, rfl, _, _⟩ := ho.block (by omega)
  have hd : els p xs = dft (el p r) 1 (els p xs) := by
    match xs, hl with
    | [x], _ => exact (dft_one _ _).symm
  have t1 : (((1 : Nat) : Int) == 1) = true := rfl
  rw [hl]
  have HL := Lib.hid hl
  have HD := Lib.hid hd
  clear hl hd
  go_enter Tryz.func111, Tryz.ntmps111
  go_wp2
  go_ret
  exact ⟨_, xs, rfl, by rw [HL.out] at ho; exact ho, hx, HD.out, fun _ => rfl, fun h => absurd rfl h, Below.refl _ _⟩
theorem grew_apart {wr w1 : World} {base : Nat} {v v' u : Value} {xs zs ys : List Int} (hd : ∀ g, v.ownBlock = some g → u.ownBlock ≠ some g) (hg : Grew wr w1 base v v' xs) (hv : Own wr base v zs) (hu : Own wr base u ys) :
    Own w1 base u ys ∧ ∀ g, v'.ownBlock = some g → u.ownBlock ≠ some g := by
  refine ⟨hu.grown hg.grown ?_, fun g hg' hu' => ?_⟩
  · cases e : u.ownBlock with
    | none => exact .inl rfl
    | some g => exact .inr fun h => hd g h.symm e
  · rcases hg.at_ with h | ⟨k, h1, h2⟩
    · exact hd g (h ▸ hg') hu'
    · rw [hg'] at h1
      injection h1 with h1
      have := (hu.lt g hu').2
      omega
def HalfRel (xs : List Int) (w : World) (ve vo i : Value) (wr : World) : Prop := ∃ j : Nat, j ≤ xs.length ∧ i = vi j ∧ Own wr w.heap.size ve (evI xs j) ∧ Own wr w.heap.size vo (odI xs j) ∧ (∀ g, ve.ownBlock = some g → vo.ownBlock ≠ some g) ∧ Below w.heap.size w wr
def JoinRel {p : Nat} [NeZero p] (r : Fin p) (l : List (Fin p)) (base m g : Nat) (x i : Value) (wr : World) : Prop := ∃ (j : Nat) (L : List (Fin p)), j ≤ m ∧ i = vi j ∧ x = vi (fv (pw r j)) ∧ OwnE wr base g (2 * m) L ∧ ∀ t, t < j → co L t = ev l (pw r t) ∧ co L (t + m) = ev l (pw r (t + m))
theorem join_step {p : Nat} [NeZero p] {l L : List (Fin p)} {R U V : Fin p} {t m : Nat} (htm : t < m) (hl : t + m < L.length) (h : ∀ j, j < t → co L j = ev l (pw R j) ∧ co L (j + m) = ev l (pw R (j + m))) (hU : U = ev l (pw R t)) (hV : V = ev l (pw R (t + m))) :
    ∀ j, j < t + 1 → co ((L.set t U).set (t + m) V) j = ev l (pw R j) ∧ co ((L.set t U).set (t + m) V) (j + m) = ev l (pw R (j + m)) := by
  intro j hj
  have e : ∀ x, co ((L.set t U).set (t + m) V) x = if x = t + m then V else if x = t then U else co L x := fun x => by
    rw [co_set _ _ _ (by simpa using hl), co_set _ _ _ (by omega)]
  rw [e, e, if_neg (by omega), if_neg (c := j + m = t) (by omega)]
  by_cases he : j = t
  · subst he
    rw [if_pos rfl, if_pos rfl]; exact ⟨hU, hV⟩
  · rw [if_neg he, if_neg (by omega)]; exact h j (by omega)
theorem join_done {p : Nat} [NeZero p] {l L : List (Fin p)} {R : Fin p} {m : Nat} (hl : L.length = 2 * m) (h : ∀ j, j < m → co L j = ev l (pw R j) ∧ co L (j + m) = ev l (pw R (j + m))) : L = dft R (2 * m) l := by
  refine ext_co (by rw [hl, dft_length]) fun i hi => ?_
  rw [dft, co_tab, if_pos (by omega)]
  by_cases h1 : i < m
  · exact (h i h1).1
  · have := (h (i - m) (by omega)).2
    rwa [show i - m + m = i from by omega] at this
set_option maxRecDepth 100000 in
set_option maxHeartbeats 2000000 in
theorem spread_step (p S D b : Nat) [NeZero p] (n : Nat) (s : Fin p) (m : Nat) (hm1 : 1 ≤ m) (hm2 : 2 * m ≤ 65536) (hpow : m = 1 ∨ ∃ h, m = 2 * h) (IH : SpreadSpec p S D b n s m) : SpreadSpec p S D b n s (2 * m) := by
  intro w base v xs r hl hx hr hcond hD ho hb
  have hrm : pw (el p r) m = -1 := by
    rcases hcond with h | ⟨h, e, e2⟩
    · omega
    · rw [show m = h from by omega]; exact e2
  have hcond2 : m = 1 ∨ ∃ h, m = 2 * h ∧ pw (el p r * el p r) h = -1 := hpow.imp id fun ⟨h, e⟩ => ⟨h, e, by
    rw [← hrm, e, pw_mul]
    congr 1
    simp only [pw]; grind⟩
  obtain ⟨g, c, rfl, hg1, hg2⟩ := ho.block (by omega)
  have hp2 := hD.fld.max
  have hsr := fun w' => @Own.below w w' base
  obtain ⟨R, hR⟩ : ∃ R, R = el p r := ⟨_, rfl⟩
  rw [← hR] at hrm hcond2 ⊢
  have HR := Lib.hid hR
  have HRM := Lib.hid hrm
  have HC2 := Lib.hid hcond2
  have HIH := Lib.hid IH
  have t0 : (((2 * m : Nat) : Int) == 1) = false := by rw [beq_eq_false_iff_ne]; omega
  rw [hl]
  have HL := Lib.hid hl
  clear hR hrm hcond hcond2 hpow IH hsr hl
  obtain ⟨N, hN⟩ : ∃ N, N = 2 * m := ⟨_, rfl⟩
  rw [← hN] at t0 hm2 HL ⊢
  have HN := Lib.hid hN
  have hN2 : m < N := by omega
  have hN3 : (N : Int) / 2 = (m : Int) := by omega
  clear hN
  go_enter Tryz.func111, Tryz.ntmps111
  go_wp2_with fail
  go_loopw [8, 9, 24] (fun ve vo i wr => HalfRel xs w ve vo i wr) (fun _ _ i _ => N - (intOf i).toNat)
  case atStart => exact ⟨0, Nat.zero_le _, rfl, World.ownsRow_nil _ _ _ _, World.ownsRow_nil _ _ _ _, fun g h => by simp [Value.ownBlock] at h, Below.refl _ _⟩
  case round =>
    obtain ⟨j, hj, rfl, hve, hvo, hap, hbw⟩ := hrel
    rw [HL.out] at hj
    by_cases hlt : j < N
    · have hjx : j < xs.length := by rw [HL.out]; exact hlt
      have hown := ho.below hbw
      have hcell := hown.at_ rfl j hjx
      have hI := hx _ (List.getElem_mem hjx)
      have hle1 : (evI xs j).length < 17592186044416 := by simp [evI]; omega
      have hle2 : (odI xs j).length < 17592186044416 := by simp [odI]; omega
      have hpar : j % 2 = 0 ∨ ¬ j % 2 = 0 := by omega
      rcases hpar with hev | hod
      · obtain ⟨e1, e2⟩ := evI_even hev hjx
        have t1 : ((j : Int) % 2 == 0) = true := by rw [beq_iff_eq]; omega
        obtain ⟨x, hxj⟩ : ∃ x, x = xs[j] := ⟨_, rfl⟩
        rw [← hxj] at hI hcell e1
        have E1 := Lib.hid e1
        have E2 := Lib.hid e2
        have HAP := Lib.hid hap
        clear hxj e1 e2 hev hap
        go_wp2_with (at_builtin; refine wpList_app1 wr x rfl _ _ rfl w.heap.size _ _ rfl rfl hve hle1 hbw.size ?_; intro v' w1 hg)
        obtain ⟨hvo1, hap1⟩ := grew_apart HAP.out hg hve hvo
        go_roundw
        case rel => exact ⟨j + 1, by rw [HL.out]; omega, by go_num, by rw [← E1.out]; exact hg.own, by rw [E2.out]; exact hvo1, hap1, hg.below hbw hve (Nat.le_refl _) hbw.size⟩
        case measure => simp [intOf]; omega
      · obtain ⟨e1, e2⟩ := odI_odd hod hjx
        have t1 : ((j : Int) % 2 == 0) = false := by rw [beq_eq_false_iff_ne]; omega
        obtain ⟨x, hxj⟩ : ∃ x, x = xs[j] := ⟨_, rfl⟩
        rw [← hxj] at hI hcell e1
        have E1 := Lib.hid e1
        have E2 := Lib.hid e2
        have hap' := fun (g : Nat) h1 h2 => hap g h2 h1
        have HAP := Lib.hid hap'
        clear hxj e1 e2 hod hap hap'
        go_wp2_with (at_builtin; refine wpList_app1 wr x rfl _ _ rfl w.heap.size _ _ rfl rfl hvo hle2 hbw.size ?_; intro v' w1 hg)
        obtain ⟨hve1, hap1⟩ := grew_apart HAP.out hg hvo hve
        go_roundw
        case rel => exact ⟨j + 1, by rw [HL.out]; omega, by go_num, by rw [E2.out]; exact hve1, by rw [← E1.out]; exact hg.own, fun g h1 h2 => hap1 g h2 h1, hg.below hbw hvo (Nat.le_refl _) hbw.size⟩
        case measure => simp [intOf]; omega
    · obtain rfl : j = N := by omega
      obtain ⟨hE1, hO1⟩ := els_evI (p := p) (xs := xs) (m := m) (by rw [HL.out, HN.out])
      rw [← HN.out] at hE1 hO1
      obtain ⟨hE2, hO2⟩ := evI_mem (P := I64) (by constructor <;> omega) hx j
      have hE3 : (evI xs j).length = m := by have := HN.out; simp [evI]; omega
      have hO3 : (odI xs j).length = m := by have := HN.out; simp [odI]; omega
      obtain ⟨E, hE⟩ : ∃ E, E = evI xs j := ⟨_, rfl⟩
      obtain ⟨O, hO⟩ : ∃ O, O = odI xs j := ⟨_, rfl⟩
      rw [← hE] at hE1 hE2 hE3 hve
      rw [← hO] at hO1 hO2 hO3 hvo
      have HE1 := Lib.hid hE1
      have HO1 := Lib.hid hO1
      have HE3 := Lib.hid hE3
      have HO3 := Lib.hid hO3
      clear hE1 hO1 hE3 hO3 hE hO hap
      have hDr := hD.below hbw hD.le
      have hcd := hDr.c0
      have hcb := hDr.fld.c0
      go_wp2_with fail
      refine (mul_any p hp2 b r r hr hr _ hcb).mono ?_
      rintro e w1 ⟨rfl, k1, rfl⟩
      rw [← HR.out]
      have hsq : I64 (fv (R * R)) := i64_fv _ hp2
      have hc2 : m = 1 ∨ ∃ h, m = 2 * h ∧ pw (el p (fv (R * R))) h = -1 := by rw [el_fv]; exact HC2.out
      have HC3 := Lib.hid hc2
      clear hc2
      go_wp2_with fail
      refine (HIH.out _ w.heap.size _ E (fv (R * R)) HE3.out hE2 hsq HC3.out (hDr.drewN k1) (hve.drewN k1) hbw.size).mono ?_
      rintro e w2 ⟨ve2, ys, rfl, hve2, hys, hysd, _, _, hb2⟩
      have hDs := (hDr.drewN k1).below hb2 (hDr.drewN k1).le
      have hvo1 := (hvo.drewN k1).below hb2
      have hbw2 : Below w.heap.size w w2 := (below_drewN hbw k1).trans (hb2.mono hbw.size)
      go_wp2_with fail
      refine (HIH.out _ w.heap.size _ O (fv (R * R)) HO3.out hO2 hsq HC3.out hDs hvo1 hbw2.size).mono ?_
      rintro e w3 ⟨vo2, zs, rfl, hvo2, hzs, hzsd, _, _, hb3⟩
      have hDt := hDs.below hb3 hDs.le
      have hve3 := hve2.below hb3
      have hbw3 : Below w.heap.size w w3 := hbw2.trans (hb3.mono hbw2.size)
      rw [el_fv, HE1.out] at hysd
      rw [el_fv, HO1.out] at hzsd
      have hysl : ys.length = m := by have := congrArg List.length hysd; rw [dft_length] at this; simpa using this
      have hzsl : zs.length = m := by have := congrArg List.length hzsd; rw [dft_length] at this; simpa using this
      have HYS := Lib.hid hysd
      have HZS := Lib.hid hzsd
      have HYL := Lib.hid hysl
      have HZL := Lib.hid hzsl
      clear hDr hcd hcb hve hvo hve2 hDs hvo1 hbw hbw2 hb2 hb3 hysd hzsd
      obtain ⟨gy, cy, e1, _, _⟩ := hve3.block (by rw [hysl]; omega)
      obtain ⟨gz, cz, e2, _, _⟩ := hvo2.block (by rw [hzsl]; omega)
      rw [hysl] at e1
      rw [hzsl] at e2
      subst e1 e2
      clear hysl hzsl
      have hmk := make_ints j j (Nat.le_refl _) (by omega)
      have hOE := OwnE.made (p := p) w3 w.heap.size j hbw3.size (by omega)
      rw [HN.out] at hOE
      have hDl := hDt.le
      go_wp2
      go_loopw [14, 60] (fun x i wr => JoinRel R (els p xs) w.heap.size m w3.heap.size x i wr ∧ Below w3.heap.size w3 wr) (fun _ i _ => m - (intOf i).toNat)
      case atStart => exact ⟨⟨0, _, Nat.zero_le _, rfl, by rw [pw_zero, fv_one hDt.fld.two], by rw [HN.out]; exact hOE, fun t ht => absurd ht (by omega)⟩, (Below.refl _ _).alloc (Nat.le_refl _) _⟩
      case round =>
        obtain ⟨⟨t, L, ht, rfl, rfl, hoe, hco⟩, hbl⟩ := hrel
        have hDw := hDt.below hbl hDl
        have hcd := hDw.c0
        have hcb := hDw.fld.c0
        have HCO := Lib.hid hco
        clear hco
        by_cases hlt : t < m
        · have hty : t < ys.length := by rw [HYL.out]; exact hlt
          have htz : t < zs.length := by rw [HZL.out]; exact hlt
          have hc1 := (hve3.below hbl).at_ HYL.out.symm t hty
          have hc2 := (hvo2.below hbl).at_ HZL.out.symm t htz
          have ha0 := hys _ (List.getElem_mem hty)
          have hz0 := hzs _ (List.getElem_mem htz)
          have hA : el p ys[t] = ev (evens (els p xs)) (pw (R * R) t) := by
            have h : co (els p ys) t = el p ys[t] := by rw [co_of_lt (by simpa using hty)]; simp
            rw [← h, HYS.out, dft, co_tab, if_pos hlt]
          have hZ : el p zs[t] = ev (odds (els p xs)) (pw (R * R) t) := by
            have h : co (els p zs) t = el p zs[t] := by rw [co_of_lt (by simpa using htz)]; simp
            rw [← h, HZS.out, dft, co_tab, if_pos hlt]
          obtain ⟨a0, hae⟩ : ∃ a, a = ys[t] := ⟨_, rfl⟩
          obtain ⟨z0, hze⟩ : ∃ z, z = zs[t] := ⟨_, rfl⟩
          rw [← hae] at hc1 ha0 hA
          rw [← hze] at hc2 hz0 hZ
          obtain ⟨X, hX⟩ : ∃ X, X = pw R t := ⟨_, rfl⟩
          rw [← hX]
          obtain ⟨Y, hY⟩ : ∃ Y, Y = X * el p z0 := ⟨_, rfl⟩
          obtain ⟨U, hU⟩ : ∃ U, U = el p a0 + Y := ⟨_, rfl⟩
          obtain ⟨V, hV⟩ : ∃ V, V = el p a0 - Y := ⟨_, rfl⟩
          have hU2 : U = ev (els p xs) (pw R t) := by rw [hU, hY, hX, hA, hZ]; exact (dft_lo R _ t).symm
          have hV2 : V = ev (els p xs) (pw R (t + m)) := by rw [hV, hY, hX, hA, hZ]; exact (dft_hi HRM.out _ t).symm
          have iX : I64 (fv X) := i64_fv X hp2
          have iY : I64 (fv Y) := i64_fv Y hp2
          have hmul : ∀ W : World, W.cell? ⟨b, 0, none⟩ = some (vi p) → Calls Tryz.prog 75 #[.pointer (some ⟨b, 0, none⟩), vi (fv X), vi z0] W fun e w' => e = .returned (vi (fv Y)) ∧ ∃ k, w' = W.drewN k := fun W h => by
            have := mul_any p hp2 b (fv X) z0 iX hz0 W h
            rw [el_fv, ← hY] at this; exact this
          have hadd : ∀ W : World, W.cell? ⟨b, 0, none⟩ = some (vi p) → Calls Tryz.prog 73 #[.pointer (some ⟨b, 0, none⟩), vi a0, vi (fv Y)] W fun e w' => e = .returned (vi (fv U)) ∧ ∃ k, w' = W.drewN k := fun W h => by
            have := add_any p hp2 b a0 (fv Y) ha0 iY W h
            rw [el_fv, ← hU] at this; exact this
          have hsub : ∀ W : World, W.cell? ⟨b, 0, none⟩ = some (vi p) → Calls Tryz.prog 84 #[.pointer (some ⟨b, 0, none⟩), vi a0, vi (fv Y)] W fun e w' => e = .returned (vi (fv V)) ∧ W = w' := fun W h => by
            have := sub_any p hp2 b a0 (fv Y) ha0 iY W h
            rw [el_fv, ← hV] at this; exact this
          have hX1 : X * R = pw R (t + 1) := by rw [hX, pw_succ]
          have hnx : ∀ W : World, W.cell? ⟨b, 0, none⟩ = some (vi p) → Calls Tryz.prog 75 #[.pointer (some ⟨b, 0, none⟩), vi (fv X), vi r] W fun e w' => e = .returned (vi (fv (pw R (t + 1)))) ∧ ∃ k, w' = W.drewN k := fun W h => by
            have := mul_any p hp2 b (fv X) r iX hr W h
            rw [el_fv, ← HR.out, hX1] at this; exact this
          have HMUL := Lib.hid hmul
          have HADD := Lib.hid hadd
          have HSUB := Lib.hid hsub
          have HNX := Lib.hid hnx
          have HU := Lib.hid hU2
          have HV := Lib.hid hV2
          clear hmul hadd hsub hnx hX1 hU2 hV2 hU hV hY hX hae hze hA hZ
          have i1 : (0 : Int) ≤ t := by omega
          have i2 : (t : Int) < m := by omega
          have i3 : (t : Int) < j := by omega
          have i4 : IntKind.i64.wrap ((t : Int) + m) = (t : Int) + m := IntWalk.i64_in _ (by omega)
          have i5 : (0 : Int) ≤ (t : Int) + m := by omega
          have i6 : (t : Int) + m < j := by have := HN.out; omega
          have i7 : ((t : Int) + m).toNat = t + m := by omega
          have i9 : IntKind.i64.wrap (m : Int) = (m : Int) := IntWalk.i64_in _ (by constructor <;> omega)
          have hf1 := hoe.frozen t
          have hf2 := hoe.frozen (t + m)
          have ho1 := hoe.at_ t (by omega)
          have ho2 := hoe.at_ (t + m) (by omega)
          have hne1 : ¬ D = w3.heap.size := by have := hDt.lt; omega
          have hne3 : ¬ gy = w3.heap.size := by have := (hve3.lt gy rfl).2; omega
          have hne2 : ¬ b = w3.heap.size := by have := hDt.fld.lt; omega
          have hmx : Tryz.prog.follows .mixedOrders = true := by kernel_rfl
          go_wp2
          go_quiet ((go_at_call 75; exact Calls.quiet_of (HMUL.out _ (by exact hcb))))
          go_wp2
          go_region_held3 (fun w' => w'.cell? ⟨D, 0, none⟩ = some (.pointer (some ⟨b, 0, none⟩)) ∧ w'.cell? ⟨gy, t, none⟩ = some (vi a0) ∧ w'.cell? ⟨b, 0, none⟩ = some (vi p)) (first | exact ⟨hcd, hc1, hcb⟩ | exact ⟨setCell_keep hcd hne1, setCell_keep hc1 hne3, setCell_keep hcb hne2⟩ | exact ⟨setCell_keep (setCell_keep hcd hne1) hne1, setCell_keep (setCell_keep hc1 hne3) hne3, setCell_keep (setCell_keep hcb hne2) hne2⟩) ((first | (go_at_call 73; refine (HADD.out _ (by exact hcb)).mono ?_; rintro e w' ⟨rfl, k3, rfl⟩) | (go_at_call 84; refine (HSUB.out _ (by exact hcb)).mono ?_; rintro e w' ⟨rfl, rfl⟩)))
          clear i4 i9 i5 i6 i7
          go_wp2_with fail
          refine (HNX.out _ (by exact setCell_keep (setCell_keep hcb hne2) hne2)).mono ?_
          rintro e w5 ⟨rfl, k5, rfl⟩
          go_wp2
          go_roundw
          case rel =>
            have h1 : OwnE (wr.drewN (nq + 1 + k3)) w.heap.size w3.heap.size (2 * m) L := hoe
            have h2 := (h1.store t U).store (t + m) V
            refine ⟨⟨t + 1, _, by omega, by go_num, rfl, h2, join_step hlt (by rw [hoe.1]; omega) HCO.out HU.out HV.out⟩, ?_⟩
            exact below_drewN (((below_drewN hbl (nq + 1 + k3)).setCell (p := ⟨w3.heap.size, t, none⟩) (Nat.le_refl _) _).setCell (p := ⟨w3.heap.size, t + m, none⟩) (Nat.le_refl _) _) k5
          case measure => simp [intOf]; omega
        · obtain rfl : t = m := by omega
          have hLd : L = dft R (2 * t) (els p xs) := join_done hoe.1 HCO.out
          have HLD := Lib.hid hLd
          clear hLd
          go_wp2
          go_ret
          have ho3 := hoe.2.more hb
          rw [← HN.out] at ho3
          refine ⟨_, fvs L, rfl, ho3, i64_fvs L hp2, ?_, fun h => by have := HN.out; omega, fun _ => ?_, hbw3.trans (hbl.mono hbw3.size)⟩
          · rw [els_fvs, HN.out]; exact HLD.out
          · rw [HN.out]; exact congrArg fvs HLD.out
theorem spread_any (p S D b : Nat) [NeZero p] (n : Nat) (s : Fin p) : ∀ k, k ≤ 16 → SpreadSpec p S D b n s (2 ^ k)
  | 0, _ => spread_one p S D b n s
  | k + 1, hk => by
    have h1 : 2 ^ k ≤ 2 ^ 15 := Nat.pow_le_pow_right (by omega) (by omega)
    have h2 : 1 ≤ 2 ^ k := Nat.pow_pos (by omega)
    rw [Nat.pow_succ, Nat.mul_comm]
    refine spread_step p S D b n s (2 ^ k) h2 (by omega) ?_ (spread_any p S D b n s k (by omega))
    cases k with
    | zero => exact .inl rfl
    | succ k => exact .inr ⟨2 ^ k, by rw [Nat.pow_succ, Nat.mul_comm]⟩
end Go.Proofs.YteceghbjjnknbaaGreat
