/- A bundle of texts: Mem, Fw1, App, Fw2, Fw3, Fw4, Mk, Ra, Told, Lv1, Same, LaidT, Shs. -/
import Derived.Below
import Derived.Laws.OwnMore
import Derived.Deep.AppendLies
import Derived.Deep.Draws
import Derived.Laws.Rows
import Derived.WalkKit
import Derived.Deep.OwnRows
import Derived.Lib.Hide
import Derived.Test.YtpkhcncempoohaaGreatDoorChecked
import Derived.Test.YtpkhcncempoohaaGreatDoorQ00
import Derived.Outline
import Derived.Deep.QuietTactic
import Derived.BigQuiet
import Derived.WalkLawsBesides
import Derived.WalkSpells
import Derived.Laws.BitsAllLaws
import Derived.Laws.BitsLemmas
import Derived.Maps.AppendAt
import Derived.RegionTactic
import Derived.OwnWalk
import Derived.Deep.LoopGhost
import Derived.Laws.MakeOwn
import Derived.LaidEql
import Derived.Stop.Asserts
import Derived.RowKitTokens
import Derived.Test.YtpkhcncempoohaaGreatDoorCards
import Derived.Test.YtpkhcncempoohaaGreatDoorTie
import Derived.ProofKit
import Derived.OpenShut
import Derived.Deep.DeepHandedRow
import Derived.Deep.DeepWitnessRowRef
import Derived.Deep.DeepLaidRun
import Derived.LaidHandle
import Derived.LaidLaws
import Derived.LaidMore
import Derived.SevenTiedAt
import Derived.Shelf.Small.Strs
import Derived.Shelf.Strconv.AtoiAll
import Derived.Shelf.Strings.Prefix
import Derived.Shelf.Strings.SlTrimAscii
set_option linter.unusedVariables false
set_option linter.unusedSimpArgs false
namespace Go.Proofs.YtpkhcncempoohaaGreatDoor
open Go.RowKit
theorem block_of_add (a : Addr) (n : Nat) : (a.add n).block = a.block := by unfold Addr.add; split <;> rfl
theorem add_of_add (a : Addr) (i j : Nat) : (a.add i).add j = a.add (i + j) := by
  unfold Addr.add
  by_cases hi : i = 0 <;> by_cases hj : j = 0 <;> simp [hi, hj, Nat.add_assoc]
def Reads (w : World) (B size : Nat) (A : Option Addr) (n : Nat) (xs : List Value) : Prop :=
  xs.length = n * size ∧ (0 < n → ∃ ad, A = some ad ∧ ad.block < B ∧ ∀ j u, xs[j]? = some u → w.cell? (ad.add j) = some u)
section
variable {w w' : World} {B B' size n : Nat} {A : Option Addr} {xs : List Value}
theorem Reads.none_ : Reads w B size A 0 [] := ⟨by simp, fun h => absurd h (by omega)⟩
theorem Reads.at_ {k : Nat} (h : Reads w B 1 A n xs) (hk : k < n) : ∃ ad u, A = some ad ∧ ad.block < B ∧ xs[k]? = some u ∧ w.cell? (ad.add k) = some u := by
  obtain ⟨ad, e, hb, hc⟩ := h.2 (by omega)
  have hl : k < xs.length := by have := h.1; omega
  exact ⟨ad, xs[k], e, hb, List.getElem?_eq_getElem hl, hc k _ (List.getElem?_eq_getElem hl)⟩
theorem Reads.keep (h : Reads w B size A n xs) (hk : ∀ p : Addr, p.block < B → w'.cell? p = w.cell? p) : Reads w' B size A n xs :=
  ⟨h.1, fun hn => by
    obtain ⟨ad, e, hb, hc⟩ := h.2 hn
    exact ⟨ad, e, hb, fun j u hu => (hk _ (by rw [block_of_add]; exact hb)).trans (hc j u hu)⟩⟩
theorem Reads.more (h : Reads w B size A n xs) (hB : B ≤ B') : Reads w B' size A n xs :=
  ⟨h.1, fun hn => by
    obtain ⟨ad, e, hb, hc⟩ := h.2 hn
    exact ⟨ad, e, by omega, hc⟩⟩
theorem Reads.below (h : Reads w B size A n xs) (hb : Below B w w') : Reads w' B size A n xs := h.keep fun _ hp => hb.cell hp
theorem Reads.drew (h : Reads w B size A n xs) : Reads w.drew B size A n xs := h
theorem Reads.drewN (h : Reads w B size A n xs) (k : Nat) : Reads (w.drewN k) B size A n xs := h
theorem Reads.alloc (h : Reads w B size A n xs) (hB : B ≤ w.heap.size) (o : Obj) : Reads (w.alloc o) B size A n xs := h.keep fun p hp => World.cell?_alloc_lt w o p (by omega)
theorem Reads.setCell (h : Reads w B size A n xs) {p : Addr} (hB : B ≤ p.block) (u : Value) : Reads (w.setCell p u) B size A n xs :=
  h.keep fun q hq => World.cell?_setCell_other w p q u (fun e => by subst e; omega)
theorem Reads.grown (h : Reads w B size A n xs) {row : Option Nat} (hg : w.grownBy w' row) (hB : B ≤ w.heap.size) (hr : ∀ g, row = some g → B ≤ g) : Reads w' B size A n xs :=
  h.keep fun p hp => World.cell?_of_block (hg.block p.block (by omega) (fun e => by have := hr _ e.symm; omega))
theorem Reads.of_own {base : Nat} {e : TypeId} {c : Nat} (h : w.ownsRow base e size (.slice A n c) n xs) : Reads w w.heap.size size A n xs := by
  refine ⟨h.1, fun hn => ?_⟩
  obtain ⟨g, cap, hv, _, hlt⟩ := h.form hn
  have hA : A = some ⟨g, 0, none⟩ := by injection hv
  subst hA
  exact ⟨_, rfl, hlt, h.cells (g := g) rfl⟩
end
def Blk (w : World) (g : Nat) (t : TypeId) (cs : Array Value) : Prop := w.heap[g]? = some (.cells cs t (0, 0))
section
variable {w w' : World} {g : Nat} {t : TypeId} {cs : Array Value}
theorem Blk.lt (h : Blk w g t cs) : g < w.heap.size := by
  rcases Nat.lt_or_ge g w.heap.size with hlt | hge
  · exact hlt
  · unfold Blk at h; rw [Array.getElem?_eq_none hge] at h; cases h
theorem Blk.cell (h : Blk w g t cs) (i : Nat) : w.cell? ⟨g, i, none⟩ = cs[i]? := cell_of_row w g i cs t (0, 0) h
theorem Blk.frozen (h : Blk w g t cs) (i : Nat) : w.frozen? ⟨g, i, none⟩ = false := by
  unfold Blk at h
  simp [World.frozen?, h]
theorem Blk.new (w : World) (t : TypeId) (cs : Array Value) : Blk (w.alloc (.cells cs t)) w.heap.size t cs := heap_alloc_new w _
theorem Blk.drew (h : Blk w g t cs) : Blk w.drew g t cs := h
theorem Blk.drewN (h : Blk w g t cs) (n : Nat) : Blk (w.drewN n) g t cs := h
theorem Blk.alloc (h : Blk w g t cs) (o : Obj) : Blk (w.alloc o) g t cs := (Below.heap_alloc w o g h.lt).trans h
theorem Blk.set_ (h : Blk w g t cs) (i : Nat) (u : Value) : Blk (w.setCell ⟨g, i, none⟩ u) g t (cs.setIfInBounds i u) := by
  unfold Blk at h ⊢
  simp [World.setCell, Array.getElem?_modify, h]
theorem Blk.far (h : Blk w g t cs) {p : Addr} (hp : g ≠ p.block) (u : Value) : Blk (w.setCell p u) g t cs := (Below.heap_setCell w p u g hp).trans h
theorem Blk.below {B : Nat} (h : Blk w g t cs) (hb : Below B w w') (hg : g < B) : Blk w' g t cs := (hb.block g hg).trans h
theorem Blk.grown {row : Option Nat} (h : Blk w g t cs) (hb : w.grownBy w' row) (hg : some g ≠ row) : Blk w' g t cs := (hb.block g h.lt hg).trans h
theorem Blk.ne_ {g' : Nat} {t' : TypeId} {cs' : Array Value} (h : Blk w g t cs) (h' : Blk w g' t' cs') (hne : t ≠ t') : g ≠ g' := by
  rintro rfl
  unfold Blk at h h'
  rw [h] at h'
  injection h' with h'
  injection h' with _ ht
  exact hne ht
end
theorem setCell_keep {w : World} {b o g t : Nat} {u v : Value} (h : w.cell? ⟨b, o, none⟩ = some v) (hne : ¬ b = g) : (w.setCell ⟨g, t, none⟩ u).cell? ⟨b, o, none⟩ = some v :=
  (World.cell?_setCell_other w _ _ u (fun e => hne (by injection e with e _ _; exact e.symm))).trans h
theorem below_drewN {B : Nat} {a w : World} (h : Below B a w) (n : Nat) : Below B a (w.drewN n) := ⟨h.os, h.tape, h.output, h.size, h.block⟩
abbrev vi (n : Int) : Value := .int .i64 n
def SL (w : World) (A : Option Addr) (xs : List Int) : Prop := Reads w w.heap.size 1 A xs.length (xs.map vi)
abbrev I64 (n : Int) : Prop := -9223372036854775808 ≤ n ∧ n ≤ 9223372036854775807
theorem ret_int {k : IntKind} {a b : Int} (h : a = b) : Ending.returned (.int k a) = .returned (.int k b) := by rw [h]
theorem ret_bool {a b : Bool} (h : a = b) : Ending.returned (.bool a) = .returned (.bool b) := by rw [h]
section
variable {w w' : World} {A : Option Addr} {xs : List Int}
theorem SL.at_ {k : Nat} (h : SL w A xs) (hk : k < xs.length) : ∃ ad, A = some ad ∧ ad.block < w.heap.size ∧ w.cell? (ad.add k) = some (vi xs[k]) := by
  obtain ⟨ad, u, e, hb, hx, hc⟩ := Reads.at_ (k := k) h hk
  rw [List.getElem?_map, List.getElem?_eq_getElem hk] at hx
  exact ⟨ad, e, hb, by rw [hc]; simpa using hx.symm⟩
theorem SL.below (h : SL w A xs) (hb : Below w.heap.size w w') : SL w' A xs := (Reads.below h hb).more hb.size
theorem SL.drewN (h : SL w A xs) (k : Nat) : SL (w.drewN k) A xs := h
theorem SL.nil : SL w A [] := Reads.none_
end
end Go.Proofs.YtpkhcncempoohaaGreatDoor

namespace Go.Proofs.YtpkhcncempoohaaGreatDoor
open Go.RowKit Zp
theorem tmod_emod (n : Int) (p : Nat) (hp : 0 < p) : n.tmod p = if 0 ≤ n then n % p else if n % p = 0 then 0 else n % p - p := by
  have hp' : (0 : Int) < p := by omega
  by_cases h : 0 ≤ n
  · rw [if_pos h, Int.tmod_eq_emod_of_nonneg h]
  · rw [if_neg h, Int.tmod_eq_emod]
    have hd : (p : Int) ∣ n ↔ n % p = 0 := Int.dvd_iff_emod_eq_zero
    by_cases h0 : n % (p : Int) = 0
    · rw [if_pos h0, if_pos (Or.inr (hd.2 h0)), h0]; rfl
    · rw [if_neg h0, if_neg (by rw [hd]; simp only [not_or]; exact ⟨by omega, h0⟩)]
      rw [Int.natAbs_natCast]
set_option maxHeartbeats 400000 in
theorem of_any (p : Nat) (hp : 0 < p) (hp2 : p ≤ 2147483647) (b : Nat) (n : Int) (hn : I64 n) (w : World) (hc : w.cell? ⟨b, 0, none⟩ = some (vi p)) :
    Calls Tryz.prog 25 #[.pointer (some ⟨b, 0, none⟩), vi n] w fun e w' => e = .returned (vi (n % p)) ∧ w = w' := by
  obtain ⟨hn1, hn2⟩ := hn
  have ht := tmod_emod n p hp
  have h1 := Int.emod_nonneg n (b := (p : Int)) (by omega)
  have h2 := Int.emod_lt_of_pos n (b := (p : Int)) (by omega)
  have b1 : -(p : Int) < n.tmod p := by rw [ht]; split <;> (try split) <;> omega
  have b2 : n.tmod p < p := by rw [ht]; split <;> (try split) <;> omega
  have H := Lib.hid ht
  clear ht
  go_enter Tryz.func25, Tryz.ntmps25
  go_wp2
  · go_ret
    have hlt : n.tmod p < 0 := by assumption
    have h := H.out
    refine ⟨ret_int ?_, rfl⟩
    rw [h] at hlt ⊢
    split at hlt <;> (try split at hlt) <;> simp_all <;> omega
  · go_ret
    have hge : 0 ≤ n.tmod p := by assumption
    have h := H.out
    refine ⟨ret_int ?_, rfl⟩
    rw [h] at hge ⊢
    split at hge <;> (try split at hge) <;> simp_all <;> omega
theorem of_el (p : Nat) [NeZero p] (hp2 : p ≤ 2147483647) (b : Nat) (n : Int) (hn : I64 n) (w : World) (hc : w.cell? ⟨b, 0, none⟩ = some (vi p)) :
    Calls Tryz.prog 25 #[.pointer (some ⟨b, 0, none⟩), vi n] w fun e w' => e = .returned (vi (fv (el p n))) ∧ w' = w :=
  (of_any p ppos hp2 b n hn w hc).mono fun e w' ⟨h1, h2⟩ => ⟨by rw [h1, fv_el], h2.symm⟩
set_option maxHeartbeats 400000 in
theorem add_any (p : Nat) [NeZero p] (hp2 : p ≤ 2147483647) (b : Nat) (m n : Int) (hm : I64 m) (hn : I64 n) (w : World) (hc : w.cell? ⟨b, 0, none⟩ = some (vi p)) :
    Calls Tryz.prog 98 #[.pointer (some ⟨b, 0, none⟩), vi m, vi n] w fun e w' => e = .returned (vi (fv (el p m + el p n))) ∧ ∃ k, w' = w.drewN k := by
  have h1 := fv_nonneg (el p m)
  have h2 := fv_lt (el p m)
  have h3 := fv_nonneg (el p n)
  have h4 := fv_lt (el p n)
  go_enter Tryz.func98, Tryz.ntmps98
  go_wp2
  go_quiet ((go_at_call 25; exact Calls.quiet_of_same (of_el p hp2 b _ ‹_› _ hc)))
  go_wp2
  go_ret
  exact ⟨ret_int (fv_add _ _).symm, _, rfl⟩
theorem mul_bd {p : Nat} (x y : Fin p) (hp2 : p ≤ 2147483647) : 0 ≤ fv x * fv y ∧ fv x * fv y ≤ 4611686014132420609 := by
  have h1 := x.isLt
  have h2 := y.isLt
  have h3 : x.val * y.val ≤ 2147483647 * 2147483647 := Nat.mul_le_mul (by omega) (by omega)
  have e : fv x * fv y = ((x.val * y.val : Nat) : Int) := by unfold fv; rw [Int.natCast_mul]
  rw [e]; omega
set_option maxHeartbeats 400000 in
theorem mul_any (p : Nat) [NeZero p] (hp2 : p ≤ 2147483647) (b : Nat) (m n : Int) (hm : I64 m) (hn : I64 n) (w : World) (hc : w.cell? ⟨b, 0, none⟩ = some (vi p)) :
    Calls Tryz.prog 69 #[.pointer (some ⟨b, 0, none⟩), vi m, vi n] w fun e w' => e = .returned (vi (fv (el p m * el p n))) ∧ ∃ k, w' = w.drewN k := by
  have h1 := fv_nonneg (el p m)
  have h2 := fv_lt (el p m)
  have h3 := fv_nonneg (el p n)
  have h4 := fv_lt (el p n)
  obtain ⟨h5, h6⟩ := mul_bd (el p m) (el p n) hp2
  go_enter Tryz.func69, Tryz.ntmps69
  go_wp2
  go_quiet ((go_at_call 25; exact Calls.quiet_of_same (of_el p hp2 b _ ‹_› _ hc)))
  go_wp2
  go_ret
  exact ⟨ret_int (fv_mul _ _).symm, _, rfl⟩
set_option maxHeartbeats 400000 in
theorem sub_any (p : Nat) [NeZero p] (hp2 : p ≤ 2147483647) (b : Nat) (m n : Int) (hm : I64 m) (hn : I64 n) (w : World) (hc : w.cell? ⟨b, 0, none⟩ = some (vi p)) :
    Calls Tryz.prog 94 #[.pointer (some ⟨b, 0, none⟩), vi m, vi n] w fun e w' => e = .returned (vi (fv (el p m - el p n))) ∧ w = w' := by
  have h1 := fv_nonneg (el p m)
  have h2 := fv_lt (el p m)
  have h3 := fv_nonneg (el p n)
  have h4 := fv_lt (el p n)
  have h5 : I64 (fv (el p m) - fv (el p n)) := by constructor <;> omega
  go_enter Tryz.func94, Tryz.ntmps94
  go_wp2_with (go_at_call 25; refine (of_el p hp2 b _ (by first | assumption | (constructor <;> omega)) _ hc).mono ?_; rintro e w' ⟨rfl, rfl⟩)
  go_ret
  exact ⟨ret_int (by rw [el_sub, el_fv, el_fv]), rfl⟩
theorem ofInt_i64 (a : Nat) (ha : a < 9223372036854775808) : (BitVec.ofInt 64 (a : Int)).toNat = a := by
  rw [BitVec.ofInt_natCast, BitVec.toNat_ofNat]; exact Nat.mod_eq_of_lt (by omega)
theorem i64_and_nat (a b : Nat) (ha : a < 9223372036854775808) (hb : b < 9223372036854775808) : bits .and .i64 (a : Int) (b : Int) = ((a &&& b : Nat) : Int) := by
  have hx : a &&& b < 2 ^ 63 := Nat.and_lt_two_pow _ (by omega)
  show IntKind.i64.wrap ((BitVec.ofInt 64 (a : Int) &&& BitVec.ofInt 64 (b : Int)).toNat : Int) = _
  rw [BitVec.toNat_and, ofInt_i64 a ha, ofInt_i64 b hb, IntKind.wrap_i64]
  omega
theorem and_one (k : Nat) (hk : (k : Int) ≤ 9223372036854775807) : bits .and .i64 (k : Int) 1 = ((k % 2 : Nat) : Int) := by
  have := i64_and_nat k 1 (by omega) (by omega)
  rw [Nat.and_one_is_mod] at this
  exact this
set_option maxHeartbeats 400000 in
theorem power_any (p : Nat) [NeZero p] (hp1 : 2 ≤ p) (hp2 : p ≤ 2147483647) (b : Nat) (m n : Int) (hm : I64 m) (hn : I64 n) (hn0 : 0 ≤ n) (w : World) (hc : w.cell? ⟨b, 0, none⟩ = some (vi p)) :
    Calls Tryz.prog 59 #[.pointer (some ⟨b, 0, none⟩), vi m, vi n] w fun e w' => e = .returned (vi (fv (pw (el p m) n.toNat))) ∧ w = w' := by
  have h1 := fv_nonneg (el p m)
  have h2 := fv_lt (el p m)
  go_enter Tryz.func59, Tryz.ntmps59
  go_wp2_with (go_at_call 25; refine (of_el p hp2 b _ hm _ hc).mono ?_; rintro e w' ⟨rfl, rfl⟩)
  go_loop [1, 2, 7] (fun a n' out => ∃ (k : Nat) (A O : Fin p), (k : Int) ≤ n ∧ a = vi (fv A) ∧ n' = vi k ∧ out = vi (fv O) ∧ O * pw A k = pw (el p m) n.toNat) (fun _ n' _ => (intOf n').toNat)
  case atStart => exact ⟨n.toNat, el p m, 1, by omega, rfl, by go_num, by rw [fv_one hp1], by grind⟩
  case round =>
    obtain ⟨k, A, O, hk, rfl, rfl, rfl, hO⟩ := hrel
    obtain ⟨h5, h6⟩ := mul_bd O A hp2
    obtain ⟨h7, h8⟩ := mul_bd A A hp2
    have hs := pow_step A k
    have hb := and_one k (by have := hn.2; omega)
    have HO := Lib.hid hO
    have HS := Lib.hid hs
    have HB := Lib.hid hb
    clear hO hs hb
    go_wp2
    · have h1 : (bits BinOp.and IntKind.i64 (↑k) 1 == 1) = true := by assumption
      rw [HB.out, beq_iff_eq] at h1
      have h0 : 0 < k := by assumption
      go_round
      case rel => exact ⟨k / 2, A * A, O * A, by omega, by rw [fv_mul], by go_num, by rw [fv_mul], by rw [← HO.out, HS.out, if_pos (by omega)]; grind⟩
      case measure => simp [intOf]; omega
    · have h1 : (bits BinOp.and IntKind.i64 (↑k) 1 == 1) = false := by assumption
      rw [HB.out, beq_eq_false_iff_ne] at h1
      have h0 : 0 < k := by assumption
      go_round
      case rel => exact ⟨k / 2, A * A, O, by omega, by rw [fv_mul], by go_num, rfl, by rw [← HO.out, HS.out, if_neg (by omega)]; grind⟩
      case measure => simp [intOf]; omega
    · have h0 : ¬ 0 < k := by assumption
      obtain rfl : k = 0 := by omega
      go_ret
      have h := HO.out
      refine ⟨ret_int ?_, rfl⟩
      rw [← h, pw_zero]
      congr 1
      grind
end Go.Proofs.YtpkhcncempoohaaGreatDoor

namespace Go.Proofs.YtpkhcncempoohaaGreatDoor
open Go.RowKit
theorem info_int : (Tryz.prog.info? 3).map (fun i => (i.zero, i.size, i.bytes)) = some (some (.int .i64 0), 1, 8) := by kernel_rfl
theorem grownBy_trans {a b c : World} {row : Option Nat} (h : a.grownBy b row) (k : b.grownBy c row) : a.grownBy c row :=
  ⟨k.os.trans h.os, k.tape.trans h.tape, k.output.trans h.output, Nat.le_trans h.size k.size, fun i hi hn => (k.block i (Nat.lt_of_lt_of_le hi h.size) hn).trans (h.block i hi hn)⟩
abbrev Own (w : World) (base : Nat) (v : Value) (xs : List Int) : Prop := w.ownsRow base 3 1 v xs.length (xs.map vi)
structure Grew (w w' : World) (base : Nat) (v v' : Value) (xs : List Int) : Prop where
  own : Own w' base v' xs
  grown : w.grownBy w' v.ownBlock
  at_ : v'.ownBlock = v.ownBlock ∨ ∃ k, v'.ownBlock = some k ∧ w.heap.size ≤ k
theorem Grew.below {w0 w w' : World} {base : Nat} {v v' : Value} {xs ys : List Int} (h : Grew w w' base v v' xs) {B : Nat} (hb : Below B w0 w) (ho : Own w base v ys) (hB : B ≤ base) (hs : B ≤ w.heap.size) : Below B w0 w' :=
  hb.grown h.grown hs (fun k hk => Nat.le_trans hB (ho.lt k hk).1)
theorem run_app1 (w : World) (base : Nat) (v : Value) (xs : List Int) (n : Int) (hown : Own w base v xs) (hlen : xs.length < 17592186044416) (hbase : base ≤ w.heap.size) (ty : TypeId) :
    ∃ v' w', (Builtin.append_ #[26, 26] ty #[v, .slice (some ⟨w.heap.size, 0, none⟩) 1 1]).run Tryz.prog (w.alloc (.cells #[vi n] 3)) = .ok v' w' ∧ Grew w w' base v v' (xs ++ [n]) := by
  obtain ⟨i0, hi, hz0, hz1, hz2⟩ := info_parts info_int
  obtain ⟨v', w', hrun, h2, h3, _, h5⟩ := run_append_own_at (P := Tryz.prog) (w.alloc (.cells #[vi n] 3)) base 26 ty 3 i0 _ 1 8 Tryz.underlying26 hi hz0 hz1 hz2 rfl (by omega)
    v xs.length (xs.map vi) (hown.alloc _) ⟨w.heap.size, 0, none⟩ 1 1 [vi n] rfl (by
      intro j u hj
      match j, hj with
      | 0, hj => simp at hj; subst hj; simp [Addr.add]) (by simp [Value.oneCell']) (by simp only [maxLen]; omega) (by omega) (by simp; omega)
  refine ⟨v', w', hrun, ?_, grownBy_trans (World.grownBy_alloc w _ _) h3, ?_⟩
  · have e : (xs ++ [n]).length = xs.length + 1 := by simp
    rw [Own, e, List.map_append]
    exact h2
  · rcases h5 with h | h
    · exact .inl h
    · exact .inr ⟨_, h, by simp⟩
theorem wpList_app1 {ops : Array Oper} {rest : List Oper} {o : Oper} {a : Act} {Q : Exit → Act → World → Prop} (w : World) (n : Int) (hgd : o.guard = none) (s x : Operand)
    (ho : o.op = .call { callee := .builtin .append, args := #[s, x], argTypes := #[26, 26] })
    (base : Nat) (v : Value) (xs : List Int) (hs : a.eval s = v) (hx : a.eval x = .slice (some ⟨w.heap.size, 0, none⟩) 1 1) (hown : Own w base v xs) (hlen : xs.length < 17592186044416) (hbase : base ≤ w.heap.size)
    (h : ∀ v' w', Grew w w' base v v' (xs ++ [n]) → wpList Tryz.prog ops Q rest (a.put o.dst v') w') : wpList Tryz.prog ops Q (o :: rest) a (w.alloc (.cells #[vi n] 3)) :=
  wpList_plain hgd fun _ hK => by
    obtain ⟨v', w', hrun, hg⟩ := run_app1 w base v xs n hown hlen hbase o.type
    unfold Oper.wp execOp
    simp only [ho, resolve, invoke, builtin, Sem.run_bind, Sem.run_pure, Result.andThen_ok, List.map_toArray, List.map_cons, List.map_nil, hs, hx, hrun]
    exact hK _ _ (h v' w' hg)
theorem Own.shape {w : World} {base : Nat} {v : Value} {xs : List Int} (h : Own w base v xs) : ∃ A c, v = .slice A xs.length c ∧ xs.length ≤ c ∧ c ≤ maxLen ∧ (∀ ad, A = some ad → ∃ g, ad = ⟨g, 0, none⟩ ∧ base ≤ g ∧ g < w.heap.size) ∧ SL w A xs := by
  have h' := h
  rcases h.2 with ⟨rfl, h0⟩ | ⟨g, cap, cur, rfl, hb, hg, hnc, hcm, hcs, ht⟩
  · have : xs = [] := List.eq_nil_of_length_eq_zero h0
    subst this
    exact ⟨none, 0, rfl, Nat.le_refl _, Nat.zero_le _, by simp, SL.nil⟩
  · refine ⟨_, cap, rfl, hnc, hcm, ?_, Reads.of_own h'⟩
    intro ad e
    injection e with e
    subst e
    exact ⟨g, rfl, hb, (h'.lt g rfl).2⟩
end Go.Proofs.YtpkhcncempoohaaGreatDoor

namespace Go.Proofs.YtpkhcncempoohaaGreatDoor
open Go.RowKit Zp
theorem i64_fv {p : Nat} (x : Fin p) (hp2 : p ≤ 2147483647) : I64 (fv x) := by
  have h1 := fv_nonneg x
  have h2 := fv_lt x
  constructor <;> omega
def zpw {p : Nat} [NeZero p] (a : Fin p) (n : Int) : Fin p := if 0 ≤ n then pw a n.toNat else pw (Zp.inv a) (-n).toNat
set_option maxHeartbeats 400000 in
theorem inv_any (p : Nat) [NeZero p] (hp1 : 2 ≤ p) (hp2 : p ≤ 2147483647) (b : Nat) (m : Int) (hm : I64 m) (w : World) (hc : w.cell? ⟨b, 0, none⟩ = some (vi p)) :
    Calls Tryz.prog 67 #[.pointer (some ⟨b, 0, none⟩), vi m] w fun e w' => e = .returned (vi (fv (Zp.inv (el p m)))) ∧ w = w' := by
  have h5 : I64 ((p : Int) - 2) := by constructor <;> omega
  have h6 : (0 : Int) ≤ (p : Int) - 2 := by omega
  have h7 : ((p : Int) - 2).toNat = p - 2 := by omega
  have H7 := Lib.hid h7
  clear h7
  go_enter Tryz.func67, Tryz.ntmps67
  go_wp2_with (go_at_call 59; refine (power_any p hp1 hp2 b m _ hm h5 h6 _ hc).mono ?_; rintro e w' ⟨rfl, rfl⟩)
  go_ret
  exact ⟨ret_int (by rw [H7.out]; rfl), rfl⟩
set_option maxHeartbeats 400000 in
theorem div_any (p : Nat) [NeZero p] (hp1 : 2 ≤ p) (hp2 : p ≤ 2147483647) (b : Nat) (m n : Int) (hm : I64 m) (hn : I64 n) (w : World) (hc : w.cell? ⟨b, 0, none⟩ = some (vi p)) :
    Calls Tryz.prog 96 #[.pointer (some ⟨b, 0, none⟩), vi m, vi n] w fun e w' => e = .returned (vi (fv (el p m * Zp.inv (el p n)))) ∧ ∃ k, w' = w.drewN k := by
  have h5 := i64_fv (Zp.inv (el p n)) hp2
  go_enter Tryz.func96, Tryz.ntmps96
  go_wp2_with (first | (go_at_call 67; refine (inv_any p hp1 hp2 b n hn _ hc).mono ?_; rintro e w' ⟨rfl, rfl⟩) | (go_at_call 69; refine (mul_any p hp2 b m _ hm h5 _ (by exact hc)).mono ?_; rintro e w' ⟨rfl, k2, rfl⟩))
  go_ret
  exact ⟨ret_int (by rw [el_fv]), _, rfl⟩
set_option maxHeartbeats 400000 in
theorem pow_any (p : Nat) [NeZero p] (hp1 : 2 ≤ p) (hp2 : p ≤ 2147483647) (b : Nat) (m n : Int) (hm : I64 m) (hn : I64 n) (w : World) (hc : w.cell? ⟨b, 0, none⟩ = some (vi p)) :
    Calls Tryz.prog 95 #[.pointer (some ⟨b, 0, none⟩), vi m, vi n] w fun e w' => e = .returned (vi (fv (zpw (el p m) n))) ∧ ∃ k, w' = w.drewN k := by
  by_cases h0 : 0 ≤ n
  · go_enter Tryz.func95, Tryz.ntmps95
    go_wp2_with (go_at_call 59; refine (power_any p hp1 hp2 b m n hm hn h0 _ hc).mono ?_; rintro e w' ⟨rfl, rfl⟩)
    go_ret
    exact ⟨ret_int (by rw [zpw, if_pos h0]), 0, rfl⟩
  · have hn1 := hn.1
    have hx := i64_fv (Zp.inv (el p m)) hp2
    have h5 : I64 (-(n + 1)) := by constructor <;> omega
    have h6 : 0 ≤ -(n + 1) := by omega
    have hy := i64_fv (pw (el p (fv (Zp.inv (el p m)))) (-(n + 1)).toNat) hp2
    go_enter Tryz.func95, Tryz.ntmps95
    go_wp2_with (first | (go_at_call 67; refine (inv_any p hp1 hp2 b m hm _ hc).mono ?_; rintro e w' ⟨rfl, rfl⟩) | (go_at_call 59; refine (power_any p hp1 hp2 b _ _ hx h5 h6 _ hc).mono ?_; rintro e w' ⟨rfl, rfl⟩) | (go_at_call 69; refine (mul_any p hp2 b _ _ hy hx _ (by exact hc)).mono ?_; rintro e w' ⟨rfl, k3, rfl⟩))
    go_ret
    refine ⟨ret_int ?_, _, rfl⟩
    rw [zpw, if_neg (by omega), el_fv, el_fv, show (-n).toNat = (-(n + 1)).toNat + 1 from by omega, pw_succ]
theorem p_any (p : Nat) (b : Nat) (w : World) (hc : w.cell? ⟨b, 0, none⟩ = some (vi p)) :
    Calls Tryz.prog 24 #[.pointer (some ⟨b, 0, none⟩)] w fun e w' => e = .returned (vi p) ∧ w = w' := by
  go_enter Tryz.func24, Tryz.ntmps24
  go_wp2
  go_ret
  exact ⟨rfl, rfl⟩
theorem generator_any (g : Nat) (b : Nat) (w : World) (hc : w.cell? ⟨b, 2, none⟩ = some (vi g)) :
    Calls Tryz.prog 60 #[.pointer (some ⟨b, 0, none⟩)] w fun e w' => e = .returned (vi g) ∧ w = w' := by
  go_enter Tryz.func60, Tryz.ntmps60
  go_wp2
  go_ret
  exact ⟨rfl, rfl⟩
def primeB (p : Nat) : Bool := decide (IsPrime p)
theorem primeB_true {p : Nat} (h : IsPrime p) : primeB p = true := decide_eq_true h
theorem primeB_false {p : Nat} (h : ¬ IsPrime p) : primeB p = false := decide_eq_false h
set_option maxHeartbeats 400000 in
theorem prime_any (p : Nat) (hp1 : 2 ≤ p) (hp2 : p ≤ 2147483647) (w : World) :
    Calls Tryz.prog 53 #[vi p] w fun e w' => e = .returned (.bool (primeB p)) ∧ w = w' := by
  have hp3 : decide ((2 : Int) ≤ (p : Int)) = true := by simp; omega
  have HP := Lib.hid hp3
  clear hp3
  go_enter Tryz.func53, Tryz.ntmps53
  go_wp2
  go_loop [3] (fun d => ∃ k : Nat, 2 ≤ k ∧ k ≤ p ∧ d = vi k ∧ NoDiv p k) (fun d => p - (intOf d).toNat)
  case atStart => exact ⟨2, by omega, hp1, rfl, noDiv_two _⟩
  case round =>
    obtain ⟨k, hk1, hk2, rfl, hno⟩ := hrel
    have ec : (k : Int) * k = ((k * k : Nat) : Int) := by rw [Int.natCast_mul]
    have em : (p : Int) % k = ((p % k : Nat) : Int) := by rw [Int.natCast_emod]
    have h1 : (k : Int) * k ≤ 4611686014132420609 := by
      have : k * k ≤ 2147483647 * 2147483647 := Nat.mul_le_mul (by omega) (by omega)
      rw [ec]; omega
    have h0 : (0 : Int) ≤ (k : Int) * k := by rw [ec]; omega
    have hkk : k ≤ k * k := Nat.le_mul_of_pos_left k (by omega)
    have hk2' : 2 * k ≤ k * k := Nat.mul_le_mul_right k hk1
    have EC := Lib.hid ec
    have EM := Lib.hid em
    have HKK := Lib.hid hkk
    have HKK2 := Lib.hid hk2'
    clear ec em hkk hk2'
    go_wp2
    · have ht : (k : Int) * k ≤ p := by assumption
      have hd : ((p : Int) % k == 0) = true := by assumption
      rw [beq_iff_eq, EM.out] at hd
      rw [EC.out] at ht
      go_ret
      exact ⟨ret_bool (primeB_false (not_prime_of_dvd hk1 (by omega) (Nat.dvd_of_mod_eq_zero (by omega)))).symm, rfl⟩
    · have ht : (k : Int) * k ≤ p := by assumption
      have hd : ((p : Int) % k == 0) = false := by assumption
      rw [beq_eq_false_iff_ne, EM.out] at hd
      rw [EC.out] at ht
      have := HKK.out
      have := HKK2.out
      go_round
      case rel => exact ⟨k + 1, by omega, by omega, by go_num, hno.succ (fun h => hd (by rw [Nat.mod_eq_zero_of_dvd h]; rfl))⟩
      case measure => simp [intOf]; omega
    · have ht : (p : Int) < (k : Int) * k := by assumption
      rw [EC.out] at ht
      go_ret
      exact ⟨ret_bool (by rw [primeB_true (hno.prime hp1 (by omega))]; exact HP.out), rfl⟩
def PrimesOf (n : Nat) (w w' : World) (e : Ending) : Prop := ∃ (v : Value) (fs : List Nat), e = .returned v ∧ Own w' w.heap.size v (fs.map (fun q : Nat => (q : Int))) ∧ Below w.heap.size w w' ∧
      (∀ q ∈ fs, 2 ≤ q) ∧ (∀ q ∈ fs, q ≤ n) ∧ fs.length ≤ 2147483648 ∧ ∀ q, IsPrime q → q ∣ n → q ∈ fs
def PR (N : Nat) (w : World) (n out d : Value) (wr : World) : Prop := ∃ (m k : Nat) (fs : List Nat), n = vi m ∧ d = vi k ∧ Own wr w.heap.size out (fs.map (fun q : Nat => (q : Int))) ∧ Below w.heap.size w wr ∧ Apart N fs m k ∧ 2 ≤ k ∧ k ≤ N + 1 ∧ m ≤ N ∧ fs.length < k
set_option maxHeartbeats 1000000 in
theorem primes_any (N : Nat) (hn1 : 1 ≤ N) (hn2 : N ≤ 2147483647) (w : World) :
    Calls Tryz.prog 54 #[vi N] w fun e w' => PrimesOf N w w' e := by
  go_enter Tryz.func54, Tryz.ntmps54
  go_wp2
  go_loopw [0, 3, 4] (fun n out d wr => PR N w n out d wr) (fun n _ d _ => (intOf n).toNat + 2147483648 - (intOf d).toNat)
  case atStart => exact ⟨N, 2, [], rfl, rfl, World.ownsRow_nil _ _ _ _, Below.refl _ _, Apart.start (by omega), by omega, by omega, by omega, by simp⟩
  case round =>
    obtain ⟨m, k, fs, rfl, rfl, hown, hb, ha, hk1, hk2, hm, hfl⟩ := hrel
    have hm0 := ha.pos
    have hsz := hb.size
    have ec : (k : Int) * k = ((k * k : Nat) : Int) := by rw [Int.natCast_mul]
    have em : (m : Int) % k = ((m % k : Nat) : Int) := by rw [Int.natCast_emod]
    have h1 : (k : Int) * k ≤ 4611686018427387904 := by
      have : k * k ≤ 2147483648 * 2147483648 := Nat.mul_le_mul (by omega) (by omega)
      rw [ec]; omega
    have h0 : (0 : Int) ≤ (k : Int) * k := by rw [ec]; omega
    have hkk : k * k ≤ m → k ≤ m := fun h => Nat.le_trans (Nat.le_mul_of_pos_left k (by omega)) h
    by_cases hlt : k * k ≤ m
    · have hkm := hkk hlt
      by_cases hd : m % k = 0
      · have t1 : (k : Int) * k ≤ m := by rw [ec]; omega
        have t2 : ((m : Int) % k != 0) = false := by rw [em, hd]; rfl
        clear ec em hkk
        have hdv : k ∣ m := Nat.dvd_of_mod_eq_zero hd
        clear hd
        have hs := ha.hit hdv hk1 (by omega)
        clear ha
        have HDV := Lib.hid hdv
        clear hdv hlt
        go_wp2_with (at_builtin; refine wpList_app1 wr k rfl _ _ rfl w.heap.size _ _ rfl rfl hown (by simp; omega) hb.size ?_; intro v' w1 hg)
        have hb1 := hg.below hb hown (Nat.le_refl _) hb.size
        have ho1 := hg.own
        clear hg hown hb t1
        obtain ⟨W1, hW1⟩ : ∃ W : World, W = w1 := ⟨_, rfl⟩
        subst hW1
        go_loop [0] (fun n => ∃ m' : Nat, n = vi m' ∧ Striking N fs m' k ∧ m' ≤ m) (fun n => (intOf n).toNat)
        case atStart => exact ⟨m, rfl, hs, Nat.le_refl _⟩
        case round =>
          obtain ⟨m', rfl, hs', hle⟩ := hrel
          have hm0' := hs'.pos
          have em : (m' : Int) % k = ((m' % k : Nat) : Int) := by rw [Int.natCast_emod]
          have ed : (m' : Int) / k = ((m' / k : Nat) : Int) := by rw [Int.natCast_ediv]
          have hdl : m' / k < m' := Nat.div_lt_self hm0' (by omega)
          by_cases hd' : m' % k = 0
          · have t3 : ((m' : Int) % k == 0) = true := by rw [em, hd']; rfl
            have hs2 := hs'.strike (Nat.dvd_of_mod_eq_zero hd')
            have hq0 : 0 ≤ (m' : Int) / k := by rw [ed]; exact Int.natCast_nonneg _
            have hq1 : (m' : Int) / k ≤ 2147483647 := by rw [ed]; exact Int.ofNat_le.2 (Nat.le_trans (Nat.le_of_lt hdl) (Nat.le_trans hle (Nat.le_trans hm hn2)))
            have ED := Lib.hid ed
            clear em ed hd'
            go_wp2
            go_round
            case rel => exact ⟨m' / k, by rw [ED.out], hs2, by omega⟩
            case measure => rw [ED.out]; simp only [intOf, Int.toNat_natCast]; exact hdl
          · have t3 : ((m' : Int) % k == 0) = false := by rw [em, beq_eq_false_iff_ne]; omega
            have ha2 := hs'.done (fun h => hd' (Nat.mod_eq_zero_of_dvd h))
            clear em ed hd'
            go_wp2
            go_roundw
            case rel => exact ⟨m', k + 1, fs ++ [k], rfl, by go_num, by rw [List.map_append]; exact ho1, hb1, ha2, by omega, by omega, by omega, by simp; omega⟩
            case measure => simp [intOf]; omega
      · have t1 : (k : Int) * k ≤ m := by rw [ec]; omega
        have t2 : ((m : Int) % k != 0) = true := by rw [em, bne_iff_ne]; omega
        clear ec em hkk
        have ha2 := ha.skip (fun h => hd (Nat.mod_eq_zero_of_dvd h))
        clear hd
        go_wp2
        go_roundw
        case rel => exact ⟨m, k + 1, fs, rfl, by go_num, hown, hb, ha2, by omega, by omega, hm, by omega⟩
        case measure => simp [intOf]; omega
    · have t1 : (m : Int) < (k : Int) * k := by rw [ec]; omega
      clear ec em hkk
      by_cases h1m : 1 < m
      · have hl := ha.last (by omega) (by omega) h1m
        clear hlt
        go_wp2_with (at_builtin; refine wpList_app1 wr m rfl _ _ rfl w.heap.size _ _ rfl rfl hown (by simp; omega) hb.size ?_; intro v' w1 hg)
        go_ret
        exact ⟨v', fs ++ [m], rfl, by rw [List.map_append]; exact hg.own, hg.below hb hown (Nat.le_refl _) hb.size, hl.1, hl.2.1, by simp; omega, hl.2.2⟩
      · have hl := ha.none h1m
        clear hlt
        go_wp2
        go_ret
        exact ⟨_, fs, rfl, hown, hb, hl.1, hl.2.1, by omega, hl.2.2⟩
end Go.Proofs.YtpkhcncempoohaaGreatDoor

namespace Go.Proofs.YtpkhcncempoohaaGreatDoor
open Go.RowKit Zp
set_option maxHeartbeats 1000000 in
theorem order_any (p : Nat) [NeZero p] (hp : IsPrime p) (hp2 : p ≤ 2147483647) (fs : List Nat) (hf : Facs p fs) (b : Nat) (m : Int) (hm : I64 m) (w : World) (hc : w.cell? ⟨b, 0, none⟩ = some (vi p))
    (A : Option Addr) (c : Nat) (hc1 : w.cell? ⟨b, 1, none⟩ = some (.slice A fs.length c)) (hl : fs.length ≤ 2147483648) (hs : SL w A (fs.map (fun q : Nat => (q : Int)))) :
    Calls Tryz.prog 55 #[.pointer (some ⟨b, 0, none⟩), vi m] w fun e w' => e = .returned (vi (ordN (el p m))) ∧ w = w' := by
  have hp1 := hp.1
  by_cases hx : el p m = 0
  · have h0 : (fv (el p m) == 0) = true := by rw [hx]; rfl
    have HX := Lib.hid hx
    clear hx
    go_enter Tryz.func55, Tryz.ntmps55
    go_wp2_with (go_at_call 25; refine (of_el p hp2 b _ hm _ hc).mono ?_; rintro e w' ⟨rfl, rfl⟩)
    go_ret
    exact ⟨ret_int (by rw [HX.out, ordN_zero hp]; rfl), rfl⟩
  · have h0 : (fv (el p m) == 0) = false := by rw [beq_eq_false_iff_ne]; exact fun h => hx (fv_eq_zero.1 h)
    have HX := Lib.hid hx
    clear hx
    go_enter Tryz.func55, Tryz.ntmps55
    go_wp2_with (go_at_call 25; refine (of_el p hp2 b _ hm _ hc).mono ?_; rintro e w' ⟨rfl, rfl⟩)
    have e1 : ((p : Int) - 1) = ((p - 1 : Nat) : Int) := by omega
    have E1 := Lib.hid e1
    clear e1
    go_loop [5, 7, 22] (fun n _ i => ∃ (n' k : Nat), n = vi n' ∧ i = vi k ∧ k ≤ fs.length ∧ Struck (el p m) fs k n' ∧ n' ≤ p - 1) (fun _ _ i => fs.length - (intOf i).toNat)
    case atStart => exact ⟨p - 1, 0, by rw [E1.out], rfl, by omega, Struck.start hp HX.out fs, Nat.le_refl _⟩
    case round =>
      obtain ⟨n, k, rfl, rfl, hk, hst, hn⟩ := hrel
      by_cases hlt : k < fs.length
      · obtain ⟨ad, rfl, hab, hcell⟩ := hs.at_ (k := k) (by simpa using hlt)
        have hcell' : w'.cell? (ad.add k) = some (vi fs[k]) := by rw [hcell]; simp
        clear hcell
        go_wp2
        have hq2 : 2 ≤ fs[k] := hf.two _ (List.getElem_mem _)
        obtain ⟨q, hq⟩ : ∃ q, q = fs[k] := ⟨_, rfl⟩
        rw [← hq] at hq2
        have HQ := Lib.hid hq
        simp only [← hq]
        clear hq hcell'
        go_loop [5] (fun n => ∃ (n' : Nat), n = vi n' ∧ Struck (el p m) fs k n' ∧ n' ≤ p - 1) (fun n => (intOf n).toNat)
        case atStart => exact ⟨n, rfl, hst, hn⟩
        case round =>
          clear hst hn
          obtain ⟨n', rfl, hst, hn⟩ := hrel
          have hn0 : 0 < n' := Nat.pos_of_ne_zero hst.ne
          have hnb : n' ≤ 2147483647 := by omega
          have em : (n' : Int) % q = ((n' % q : Nat) : Int) := by rw [Int.natCast_emod]
          have ed : (n' : Int) / q = ((n' / q : Nat) : Int) := by rw [Int.natCast_ediv]
          have hdl : n' / q < n' := Nat.div_lt_self hn0 (by omega)
          have hq0 : 0 ≤ (n' : Int) / q := by rw [ed]; exact Int.natCast_nonneg _
          have hq1 : (n' : Int) / q ≤ 2147483647 := by rw [ed]; exact Int.ofNat_le.2 (Nat.le_trans (Nat.le_of_lt hdl) hnb)
          have hI : I64 ((n' : Int) / q) := ⟨by omega, by omega⟩
          have et : ((n' : Int) / q).toNat = n' / q := by rw [ed]; rfl
          have ET := Lib.hid et
          by_cases hd : n' % q = 0
          · have hdv : q ∣ n' := Nat.dvd_of_mod_eq_zero hd
            have t3 : ((n' : Int) % q == 0) = true := by rw [em, hd]; rfl
            by_cases h1 : pw (el p m) (n' / q) = 1
            · have t4 : (fv (pw (el p m) ((n' : Int) / q).toNat) == 1) = true := by rw [beq_iff_eq, et, h1, fv_one hp1]
              have hs2 := hst.strike hf.two hq2 hdv h1
              have hnl : n' / q ≤ p - 1 := Nat.le_trans (Nat.le_of_lt hdl) hn
              have ED := Lib.hid ed
              have HDV := Lib.hid hdv
              clear em ed hd et h1 hdv
              go_wp2_with (go_at_call 59; refine (power_any p hp1 hp2 b m _ hm hI hq0 _ hc).mono ?_; rintro e w' ⟨rfl, rfl⟩)
              go_round
              case rel => exact ⟨n' / q, by rw [ED.out], hs2, hnl⟩
              case measure => rw [ED.out]; simp only [intOf, Int.toNat_natCast]; exact hdl
            · have t4 : (fv (pw (el p m) ((n' : Int) / q).toNat) == 1) = false := by rw [beq_eq_false_iff_ne, et]; exact fun h => h1 ((fv_eq_one hp1).1 h)
              have hs2 := hst.next hlt (by rw [← HQ.out]; exact fun h => h1 h.2)
              clear em ed hd et h1 hdv
              go_wp2_with (go_at_call 59; refine (power_any p hp1 hp2 b m _ hm hI hq0 _ hc).mono ?_; rintro e w' ⟨rfl, rfl⟩)
              go_round
              case rel => exact ⟨n', k + 1, rfl, by go_num, by omega, hs2, hn⟩
              case measure => simp [intOf]; omega
          · have t3 : ((n' : Int) % q == 0) = false := by rw [em, beq_eq_false_iff_ne]; omega
            have hs2 := hst.next hlt (by rw [← HQ.out]; exact fun h => hd (Nat.mod_eq_zero_of_dvd h.1))
            clear em ed hd et
            go_wp2
            go_round
            case rel => exact ⟨n', k + 1, rfl, by go_num, by omega, hs2, hn⟩
            case measure => simp [intOf]; omega
      · obtain rfl : k = fs.length := by omega
        have ho := hst.ord hp hf
        go_wp2
        go_ret
        exact ⟨ret_int (by rw [ordN_of_ord hp HX.out ho]), rfl⟩
end Go.Proofs.YtpkhcncempoohaaGreatDoor

namespace Go.Proofs.YtpkhcncempoohaaGreatDoor
open Go.RowKit Zp
structure Fld (w : World) (S b p : Nat) [NeZero p] : Prop where
  prime : IsPrime p
  three : 3 ≤ p
  max : p ≤ 2147483647
  lt : b < S
  le : S ≤ w.heap.size
  c0 : w.cell? ⟨b, 0, none⟩ = some (vi p)
  c1 : ∃ A c fs, w.cell? ⟨b, 1, none⟩ = some (.slice A fs.length c) ∧ fs.length ≤ 2147483648 ∧ Facs p fs ∧ Reads w S 1 A fs.length ((fs.map (fun q : Nat => (q : Int))).map vi)
  c2 : w.cell? ⟨b, 2, none⟩ = some (vi (genN p))
section
variable {w w' : World} {S b p : Nat} [NeZero p]
theorem Fld.keep (h : Fld w S b p) (hk : ∀ q : Addr, q.block < S → w'.cell? q = w.cell? q) (hs : w.heap.size ≤ w'.heap.size) : Fld w' S b p := by
  obtain ⟨A, c, fs, h1, h2, h3, h4⟩ := h.c1
  exact ⟨h.prime, h.three, h.max, h.lt, Nat.le_trans h.le hs, (hk _ h.lt).trans h.c0, ⟨A, c, fs, (hk _ h.lt).trans h1, h2, h3, h4.keep hk⟩, (hk _ h.lt).trans h.c2⟩
theorem Fld.below (h : Fld w S b p) {B : Nat} (hb : Below B w w') (hS : S ≤ B) : Fld w' S b p := h.keep (fun q hq => hb.cell (by omega)) hb.size
theorem Fld.drewN (h : Fld w S b p) (k : Nat) : Fld (w.drewN k) S b p := h.keep (fun _ _ => rfl) (Nat.le_refl _)
theorem Fld.two (h : Fld w S b p) : 2 ≤ p := by have := h.three; omega
theorem Fld.alloc (h : Fld w S b p) (o : Obj) : Fld (w.alloc o) S b p := h.keep (fun q hq => World.cell?_alloc_lt w o q (by have := h.le; omega)) (by simp)
end
abbrev NoField : Ending := .returned (.tuple #[.pointer none, .iface 64 (.int .i64 1)])
theorem new_no (p : Int) (w : World) (h : p < 3 ∨ 2147483647 < p) :
    Calls Tryz.prog 19 #[vi p] w fun e w' => e = NoField ∧ w = w' := by
  by_cases h3 : p < 3
  · go_enter Tryz.func19, Tryz.ntmps19
    go_wp2
    go_ret2
    exact ⟨rfl, rfl⟩
  · have h4 : 2147483647 < p := by omega
    clear h
    go_enter Tryz.func19, Tryz.ntmps19
    go_wp2
    go_ret2
    exact ⟨rfl, rfl⟩
theorem new_composite (p : Nat) (w : World) (h1 : 3 ≤ p) (h2 : p ≤ 2147483647) (hp : ¬ IsPrime p) :
    Calls Tryz.prog 19 #[vi p] w fun e w' => e = NoField ∧ w = w' := by
  have hb := primeB_false hp
  clear hp
  go_enter Tryz.func19, Tryz.ntmps19
  go_wp2_with (go_at_call 53; refine (prime_any p (by omega) h2 _).mono ?_; rintro e w' ⟨rfl, rfl⟩)
  go_ret2
  exact ⟨rfl, rfl⟩
def MadeField (p : Nat) [NeZero p] (w : World) (e : Ending) (w' : World) : Prop :=
  ∃ b : Nat, e = .returned (.tuple #[.pointer (some ⟨b, 0, none⟩), .nilIface]) ∧ Fld w' w'.heap.size b p ∧ Below w.heap.size w w' ∧ w.heap.size ≤ b
set_option maxHeartbeats 1000000 in
theorem new_prime (p : Nat) [NeZero p] (w : World) (h1 : 3 ≤ p) (h2 : p ≤ 2147483647) (hp : IsPrime p) :
    Calls Tryz.prog 19 #[vi p] w fun e w' => MadeField p w e w' := by
  have hb := primeB_true hp
  have hpr := (primes_any (p - 1) (by omega) (by omega) w)
  have ep : ((p - 1 : Nat) : Int) = (p : Int) - 1 := by omega
  rw [ep] at hpr
  have EP := Lib.hid ep
  clear ep
  have HPR := Lib.hid hpr
  clear hpr
  go_enter Tryz.func19, Tryz.ntmps19
  go_wp2_with (go_at_call 53; refine (prime_any p (by omega) h2 _).mono ?_; rintro e w' ⟨rfl, rfl⟩)
  refine (HPR.out).mono ?_
  rintro e w1 ⟨v, fs, rfl, hown, hbel, hf2, hfl, hfn, hfa⟩
  obtain ⟨A, c, hv, _, _, _, hsl⟩ := hown.shape
  rw [hv]
  rw [List.length_map]
  clear hown hv
  have hsz := hbel.size
  go_wp2
  go_loopg [] (p - 1) (fun t wr => ∃ g : Nat, t + g = p ∧ 1 ≤ g ∧ g < p ∧ Blk wr w1.heap.size 127 #[vi p, .slice A fs.length c, vi g] ∧ Below w1.heap.size w1 wr ∧
    ∀ k : Nat, 1 ≤ k → k < g → ¬ Ord (el p (k : Int)) (p - 1))
  case atStart =>
    exact ⟨1, by omega, by omega, by omega, Blk.new _ _ _, (Below.refl _ _).alloc (Nat.le_refl _) _, fun k h1 h2 => by omega⟩
  case round =>
    obtain ⟨g, hg, hg1, hgp, hblk, hb1, hno⟩ := hrel
    have hc0 : wr.cell? ⟨w1.heap.size, 0, none⟩ = some (vi p) := by rw [hblk.cell]; rfl
    have hc1 : wr.cell? ⟨w1.heap.size, 1, none⟩ = some (.slice A fs.length c) := by rw [hblk.cell]; rfl
    have hc2 : wr.cell? ⟨w1.heap.size, 2, none⟩ = some (vi g) := by rw [hblk.cell]; rfl
    have hfz := hblk.frozen 2
    have hfac : Facs p fs := ⟨hf2, hfl, hfa⟩
    have hslr : SL wr A (fs.map (fun q : Nat => (q : Int))) := SL.below hsl hb1
    have hI : I64 (g : Int) := ⟨by omega, by omega⟩
    have hx0 : el p (g : Int) ≠ 0 := fun h => by
      have := el_natCast_of_lt hgp
      rw [h, fv_zero] at this
      omega
    by_cases ho : Ord (el p (g : Int)) (p - 1)
    · have hb : (((ordN (el p (g : Int)) : Nat) : Int) != (p : Int) - 1) = false := by rw [ordN_of_ord hp hx0 ho, bne_eq_false_iff_eq, EP.out]
      have hgen : genN p = g := genN_eq ⟨hg1, hgp, ho, hno⟩
      have HG := Lib.hid hgen
      clear hgen hno ho hx0
      have HH := Lib.hid hg
      clear hg
      go_wp2_with (go_at_call 55; refine (order_any p hp h2 fs hfac _ _ hI _ hc0 A c hc1 hfn hslr).mono ?_; rintro e w' ⟨rfl, rfl⟩)
      go_ret2
      have hlt := hblk.lt
      refine ⟨w1.heap.size, rfl, ⟨hp, h1, h2, hlt, Nat.le_refl _, hc0, ⟨A, c, fs, hc1, hfn, hfac, ?_⟩, by rw [HG.out]; exact hc2⟩, hbel.trans (hb1.mono hsz), hsz⟩
      unfold SL at hslr
      rw [List.length_map] at hslr
      exact hslr
    · have hne : ordN (el p (g : Int)) ≠ p - 1 := fun h => ho (h ▸ ordN_ord hp hx0)
      have hb : (((ordN (el p (g : Int)) : Nat) : Int) != (p : Int) - 1) = true := by rw [bne_iff_ne, ← EP.out]; omega
      have hno2 : ∀ k : Nat, 1 ≤ k → k < g + 1 → ¬ Ord (el p (k : Int)) (p - 1) := fun k hk hk2 => by
        by_cases e : k = g
        · exact e ▸ ho
        · exact hno k hk (by omega)
      have hg2 : g + 1 < p := by
        false_or_by_contra
        rename_i hge
        obtain ⟨r, r1, r2, r3⟩ := gen_exists hp
        exact hno2 r r1 (by omega) r3
      have HH := Lib.hid hg
      clear hne hx0 hg ho hno
      go_wp2_with (go_at_call 55; refine (order_any p hp h2 fs hfac _ _ hI _ hc0 A c hc1 hfn hslr).mono ?_; rintro e w' ⟨rfl, rfl⟩)
      go_roundg (gk - 1)
      case measure => have := HH.out; omega
      case rel => exact ⟨g + 1, by have := HH.out; omega, by omega, hg2, hblk.set_ 2 _, hb1.setCell (Nat.le_refl _) _, hno2⟩
end Go.Proofs.YtpkhcncempoohaaGreatDoor

namespace Go.Proofs.YtpkhcncempoohaaGreatDoor
open Go.RowKit
def zeros (n : Nat) : Array Value := madeCells #[vi 0] n
theorem zeros_size (n : Nat) : (zeros n).size = n := size_madeCells _ _
theorem zeros_toList (n : Nat) : (zeros n).toList = (List.replicate n (0 : Int)).map vi := by
  rw [zeros, toList_madeCells_one, List.map_replicate]
theorem make_ints (n c : Nat) (hnc : n ≤ c) (hc : c * 8 ≤ 281474976710656) (w : World) :
    (Instr.makeSlice 26 (vi n) (vi c)).run Tryz.prog w = .ok (.slice (some ⟨w.heap.size, 0, none⟩) n c) (w.alloc (.cells (zeros c) 3)) := by
  obtain ⟨i0, hi, hz0, hz1, hz2⟩ := info_parts info_int
  have h := run_make (P := Tryz.prog) w 26 3 i0 (.int .i64 0) Tryz.underlying26 hi hz0 .i64 .i64 n c (by omega) (by omega) (by rw [hz2]; omega) (by omega)
  rw [hz1, Int.toNat_natCast, Int.toNat_natCast, Nat.mul_one] at h
  exact h
theorem make_ints0 (c : Nat) (hc : c * 8 ≤ 281474976710656) (w : World) :
    (Instr.makeSlice 26 (.int .i64 0) (vi c)).run Tryz.prog w = .ok (.slice (some ⟨w.heap.size, 0, none⟩) 0 c) (w.alloc (.cells (zeros c) 3)) := make_ints 0 c (Nat.zero_le _) hc w
theorem maxLen_of8 {c : Nat} (hc : c * 8 ≤ 281474976710656) : c ≤ maxLen := by simp only [maxLen]; omega
theorem own_made0 (w : World) (base c : Nat) (hb : base ≤ w.heap.size) (hc : c * 8 ≤ 281474976710656) : Own (w.alloc (.cells (zeros c) 3)) base (.slice (some ⟨w.heap.size, 0, none⟩) 0 c) [] :=
  World.ownsRow_made w _ c hb (maxLen_of8 hc) (by rw [zeros_size, Nat.mul_one])
theorem own_made (w : World) (base n : Nat) (hb : base ≤ w.heap.size) (hc : n * 8 ≤ 281474976710656) : Own (w.alloc (.cells (zeros n) 3)) base (.slice (some ⟨w.heap.size, 0, none⟩) n n) (List.replicate n 0) := by
  have h := World.ownsRow_lit (e := 3) (size := 1) w (zeros n) n hb (maxLen_of8 hc) (by rw [zeros_size, Nat.mul_one])
  rw [zeros_toList] at h
  rw [Own, List.length_replicate]
  exact h
theorem own_lit (w : World) (base : Nat) (xs : List Int) (hb : base ≤ w.heap.size) (hm : xs.length ≤ maxLen) : Own (w.alloc (.cells (xs.map vi).toArray 3)) base (.slice (some ⟨w.heap.size, 0, none⟩) xs.length xs.length) xs := by
  have h := World.ownsRow_lit (e := 3) (size := 1) w (xs.map vi).toArray xs.length hb hm (by simp)
  exact h
section
variable {w w' : World} {base base' : Nat} {v : Value} {xs : List Int}
theorem Own.more (h : Own w base v xs) (hb : base' ≤ base) : Own w base' v xs := by
  refine ⟨h.1, ?_⟩
  rcases h.2 with h0 | ⟨g, cap, cur, hv, hg, rest⟩
  · exact .inl h0
  · exact .inr ⟨g, cap, cur, hv, Nat.le_trans hb hg, rest⟩
theorem Own.keep (h : Own w base v xs) (hk : ∀ g, v.ownBlock = some g → w'.heap[g]? = w.heap[g]?) : Own w' base v xs := by
  refine ⟨h.1, ?_⟩
  rcases h.2 with h0 | ⟨g, cap, cur, hv, hg, hh, rest⟩
  · exact .inl h0
  · exact .inr ⟨g, cap, cur, hv, hg, by rw [hk g (by rw [hv]; rfl)]; exact hh, rest⟩
theorem Own.below (h : Own w base v xs) (hb : Below w.heap.size w w') : Own w' base v xs := h.keep fun g hg => hb.block g (h.lt g hg).2
theorem Own.drewN (h : Own w base v xs) (k : Nat) : Own (w.drewN k) base v xs := h
theorem Own.far (h : Own w base v xs) {q : Addr} (hq : v.ownBlock ≠ some q.block) (u : Value) : Own (w.setCell q u) base v xs :=
  h.keep fun g hg => Below.heap_setCell w q u g (fun e => hq (by rw [hg, e]))
theorem Own.grown (h : Own w base v xs) {row : Option Nat} (hg : w.grownBy w' row) (hne : v.ownBlock = none ∨ v.ownBlock ≠ row) : Own w' base v xs := World.ownsRow.kept h hg hne
theorem Own.len (h : Own w base v xs) : ∃ A c, v = .slice A xs.length c ∧ SL w A xs := by
  obtain ⟨A, c, h1, _, _, _, h2⟩ := h.shape
  exact ⟨A, c, h1, h2⟩
end
theorem Own.shapeN {w : World} {base : Nat} {v : Value} {xs : List Int} (h : Own w base v xs) : ∃ A n c, v = .slice A n c ∧ xs.length = n ∧ n ≤ c ∧ c ≤ maxLen ∧ SL w A xs := by
  obtain ⟨A, c, h1, h2, h3, _, h4⟩ := h.shape
  exact ⟨A, _, c, h1, rfl, h2, h3, h4⟩
theorem set_map_vi (xs : List Int) (j : Nat) (n : Int) : (xs.map vi).set j (vi n) = (xs.set j n).map vi := by rw [List.map_set]
theorem Own.store {w : World} {base g n cap : Nat} {xs : List Int} (h : Own w base (.slice (some ⟨g, 0, none⟩) n cap) xs) (hn : n = xs.length) (j : Nat) (m : Int) :
    Own (w.setCell ⟨g, j, none⟩ (vi m)) base (.slice (some ⟨g, 0, none⟩) n cap) (xs.set j m) := by
  subst hn
  have h2 := (World.ownsRow.stored h j (vi m)).1
  rw [Own, List.length_set, ← set_map_vi]
  exact h2
theorem Own.at_ {w : World} {base g n cap : Nat} {xs : List Int} (h : Own w base (.slice (some ⟨g, 0, none⟩) n cap) xs) (hn : n = xs.length) (j : Nat) (hj : j < xs.length) : w.cell? ⟨g, j, none⟩ = some (vi xs[j]) := by
  subst hn
  rw [World.ownsRow.cellAt h j (by omega), List.getElem?_map, List.getElem?_eq_getElem hj]; rfl
theorem Own.frozen_ {w : World} {base g n cap : Nat} {xs : List Int} (h : Own w base (.slice (some ⟨g, 0, none⟩) n cap) xs) (hn : n = xs.length) (j : Nat) : w.frozen? ⟨g, j, none⟩ = false := by
  subst hn
  exact World.ownsRow.frozenAt h j
theorem Own.block {w : World} {base : Nat} {v : Value} {xs : List Int} (h : Own w base v xs) (hn : 0 < xs.length) : ∃ g cap, v = .slice (some ⟨g, 0, none⟩) xs.length cap ∧ base ≤ g ∧ g < w.heap.size := by
  obtain ⟨A, c, rfl, _, _, hA, hs⟩ := h.shape
  obtain ⟨ad, rfl, _, _⟩ := hs.at_ hn
  obtain ⟨g, rfl, h1, h2⟩ := hA ad rfl
  exact ⟨g, c, rfl, h1, h2⟩
theorem wpList_app1_fits {ops : Array Oper} {rest : List Oper} {o : Oper} {a : Act} {Q : Exit → Act → World → Prop} (w : World) (n : Int) (hgd : o.guard = none) (s x : Operand)
    (ho : o.op = .call { callee := .builtin .append, args := #[s, x], argTypes := #[26, 26] })
    (base g k cap : Nat) (xs : List Int) (hs : a.eval s = .slice (some ⟨g, 0, none⟩) k cap) (hx : a.eval x = .slice (some ⟨w.heap.size, 0, none⟩) 1 1) (hown : Own w base (.slice (some ⟨g, 0, none⟩) k cap) xs) (hk : k = xs.length) (hroom : k < cap)
    (h : ∀ w', Own w' base (.slice (some ⟨g, 0, none⟩) (k + 1) cap) (xs ++ [n]) → w.grownBy w' (some g) → wpList Tryz.prog ops Q rest (a.put o.dst (.slice (some ⟨g, 0, none⟩) (k + 1) cap)) w') :
    wpList Tryz.prog ops Q (o :: rest) a (w.alloc (.cells #[vi n] 3)) :=
  wpList_plain hgd fun _ hK => by
    subst hk
    obtain ⟨i0, hi, hz0, hz1, hz2⟩ := info_parts info_int
    obtain ⟨w', hrun, h2, h3⟩ := run_append_fits (P := Tryz.prog) (w.alloc (.cells #[vi n] 3)) base 26 o.type 3 i0 1 Tryz.underlying26 hi hz1 g xs.length cap (xs.map vi) (hown.alloc _)
      ⟨w.heap.size, 0, none⟩ 1 1 [vi n] rfl (cell_one_new _ _ _) (by simp [Value.oneCell']) (by omega)
    unfold Oper.wp execOp
    simp only [ho, resolve, invoke, builtin, Sem.run_bind, Sem.run_pure, Result.andThen_ok, List.map_toArray, List.map_cons, List.map_nil, hs, hx, hrun]
    refine hK _ _ (h w' ?_ (grownBy_trans (World.grownBy_alloc w _ _) h3))
    have e : (xs ++ [n]).length = xs.length + 1 := by simp
    rw [Own, e, List.map_append]
    exact h2
def Made (xs : List Int) (w : World) (e : Ending) (w' : World) : Prop := ∃ v, e = .returned v ∧ Own w' w.heap.size v xs ∧ Below w.heap.size w w'
def Gives (xs : List Int) (w : World) (e : Ending) (w' : World) : Prop := ∃ A c, e = .returned (.slice A xs.length c) ∧ xs.length ≤ c ∧ c ≤ maxLen ∧ SL w' A xs ∧ Below w.heap.size w w'
def SaysW (v : Value) (w : World) (e : Ending) (w' : World) : Prop := e = .returned v ∧ Below w.heap.size w w'
end Go.Proofs.YtpkhcncempoohaaGreatDoor

namespace Go.Proofs.YtpkhcncempoohaaGreatDoor
open Go.RowKit Zp
set_option maxHeartbeats 400000 in
theorem rof_any (p : Nat) [NeZero p] (hp2 : p ≤ 2147483647) (n : Int) (hn : I64 n) (w : World) :
    Calls Tryz.prog 14 #[vi p, vi n] w fun e w' => e = .returned (vi (fv (el p n))) ∧ w = w' := by
  have hp := ppos (p := p)
  obtain ⟨hn1, hn2⟩ := hn
  have ht := tmod_emod n p hp
  have h1 := Int.emod_nonneg n (b := (p : Int)) (by omega)
  have h2 := Int.emod_lt_of_pos n (b := (p : Int)) (by omega)
  have b1 : -(p : Int) < n.tmod p := by rw [ht]; split <;> (try split) <;> omega
  have b2 : n.tmod p < p := by rw [ht]; split <;> (try split) <;> omega
  have H := Lib.hid ht
  clear ht
  go_enter Tryz.func14, Tryz.ntmps14
  go_wp2
  · go_ret
    have hlt : n.tmod p < 0 := by assumption
    have h := H.out
    refine ⟨ret_int ?_, rfl⟩
    rw [fv_el]
    rw [h] at hlt ⊢
    split at hlt <;> (try split at hlt) <;> simp_all <;> omega
  · go_ret
    have hge : 0 ≤ n.tmod p := by assumption
    have h := H.out
    refine ⟨ret_int ?_, rfl⟩
    rw [fv_el]
    rw [h] at hge ⊢
    split at hge <;> (try split at hge) <;> simp_all <;> omega
theorem map_take_succ {α β : Type} (f : α → β) (l : List α) (k : Nat) (hk : k < l.length) : (l.map f).take k ++ [f l[k]] = (l.map f).take (k + 1) := by
  rw [List.take_succ_eq_append_getElem (by simpa using hk)]; simp
def AllRel (p : Nat) [NeZero p] (xs : List Int) (w : World) (v i : Value) (wr : World) : Prop := ∃ k : Nat, k ≤ xs.length ∧ i = vi k ∧ Own wr w.heap.size v ((fvs (els p xs)).take k) ∧ Below w.heap.size w wr
set_option maxHeartbeats 1000000 in
theorem rall_any (p : Nat) [NeZero p] (hp2 : p ≤ 2147483647) (A : Option Addr) (cap : Nat) (xs : List Int) (hxs : ∀ n ∈ xs, I64 n) (hreach : xs.length * 8 ≤ 140737488353280) (w : World) (hs : SL w A xs) :
    Calls Tryz.prog 20 #[vi p, .slice A xs.length cap] w fun e w' => Made (fvs (els p xs)) w e w' := by
  obtain ⟨len, hlen⟩ : ∃ len, len = xs.length := ⟨_, rfl⟩
  rw [← hlen]
  rw [← hlen] at hreach
  have HL := Lib.hid hlen
  clear hlen
  go_enter Tryz.func20, Tryz.ntmps20
  go_wp2
  go_loopw [5, 6, 7] (fun v i _ wr => AllRel p xs w v i wr) (fun _ i _ _ => len - (intOf i).toNat)
  case atStart => exact ⟨0, Nat.zero_le _, rfl, World.ownsRow_nil _ _ _ _, Below.refl _ _⟩
  case round =>
    obtain ⟨k, hk, rfl, hown, hb⟩ := hrel
    rw [← HL.out] at hk
    by_cases hlt : k < len
    · have hkx : k < xs.length := by rw [← HL.out]; exact hlt
      obtain ⟨ad, rfl, hab, hcell⟩ := (hs.below hb).at_ hkx
      have hI := hxs _ (List.getElem_mem hkx)
      obtain ⟨x, hx⟩ : ∃ x, x = xs[k] := ⟨_, rfl⟩
      rw [← hx] at hI hcell
      have HX := Lib.hid hx
      clear hx
      have hll : ((fvs (els p xs)).take k).length ≤ k := List.length_take_le _ _
      go_wp2_with (first | (go_at_call 14; refine (rof_any p hp2 x hI _).mono ?_; rintro e w' ⟨rfl, rfl⟩) | (at_builtin; refine wpList_app1 wr (fv (el p x)) rfl _ _ rfl w.heap.size _ _ rfl rfl hown (by omega) hb.size ?_; intro v' w1 hg))
      go_roundw
      case rel =>
        refine ⟨k + 1, by rw [← HL.out]; omega, by go_num, ?_, hg.below hb hown (Nat.le_refl _) hb.size⟩
        have h1 := hg.own
        have h2 := map_take_succ fv (els p xs) k (by simpa using hkx)
        rw [List.getElem_map, ← HX.out] at h2
        rw [← h2]; exact h1
      case measure => simp [intOf]; omega
    · obtain rfl : k = len := by omega
      go_wp2
      go_ret
      rw [List.take_of_length_le (by simp; rw [HL.out]; exact Nat.le_refl _)] at hown
      exact ⟨_, rfl, hown, hb⟩
def UnOut (p : Nat) [NeZero p] (xs : List Int) (i : Value) : Prop := ∃ n : Nat, n ≤ xs.length ∧ i = vi n ∧ ∀ (a c : Nat) (ha : a < n) (hc : c < a) (h : a < (els p xs).length), (els p xs)[a] ≠ (els p xs)[c]'(by omega)
def UnIn (p : Nat) [NeZero p] (xs : List Int) (n : Nat) (i : Value) : Prop := ∃ k : Nat, k ≤ n ∧ i = vi k ∧ ∀ (c : Nat) (hc : c < k) (h : n < (els p xs).length) (h' : c < (els p xs).length), (els p xs)[n] ≠ (els p xs)[c]
set_option maxHeartbeats 1000000 in
theorem unlike_any (p : Nat) [NeZero p] (hp2 : p ≤ 2147483647) (A : Option Addr) (cap : Nat) (xs : List Int) (hxs : ∀ n ∈ xs, I64 n) (hreach : xs.length * 8 ≤ 140737488351232) (w : World) (hs : SL w A xs) :
    Calls Tryz.prog 7 #[vi p, .slice A xs.length cap] w fun e w' => SaysW (.bool (ndB (els p xs))) w e w' := by
  have hall := rall_any p hp2 A cap xs hxs (by omega) w hs
  have HA := Lib.hid hall
  clear hall
  go_enter Tryz.func7, Tryz.ntmps7
  go_wp2_with fail
  refine (HA.out).mono ?_
  rintro e w1 ⟨v, rfl, hown, hb⟩
  obtain ⟨A1, c1, rfl, hlc, hcm, hgd, hsl⟩ := hown.shape
  obtain ⟨len, hlen⟩ : ∃ len, len = xs.length := ⟨_, rfl⟩
  have hl1 : (fvs (els p xs)).length = len := by simp [hlen]
  rw [hl1]
  rw [← hlen] at hreach
  have HL := Lib.hid hlen
  have HL1 := Lib.hid hl1
  clear hlen hl1 hgd
  go_wp2
  go_loopw [6, 7] (fun i _ wr => UnOut p xs i ∧ SL wr A1 (fvs (els p xs)) ∧ Below w.heap.size w wr) (fun i _ _ => len - (intOf i).toNat)
  case atStart => exact ⟨⟨0, Nat.zero_le _, rfl, fun a c ha => absurd ha (by omega)⟩, hsl, hb⟩
  case round =>
    obtain ⟨⟨n, hn, rfl, hno⟩, hsl1, hb1⟩ := hrel
    rw [← HL.out] at hn
    have HNO := Lib.hid hno
    clear hno
    obtain ⟨W0, hW0⟩ : ∃ W0 : World, W0 = wr := ⟨_, rfl⟩
    subst hW0
    by_cases hlt : n < len
    · go_wp2
      go_loopw [7] (fun i wr => UnIn p xs n i ∧ SL wr A1 (fvs (els p xs)) ∧ Below w.heap.size w wr) (fun i _ => n - (intOf i).toNat)
      case atStart => exact ⟨⟨0, Nat.zero_le _, rfl, fun c hc => absurd hc (by omega)⟩, hsl1, hb1⟩
      case round =>
        obtain ⟨⟨k, hk, rfl, hno⟩, hsl2, hb2⟩ := hrel
        have HN2 := Lib.hid hno
        clear hno
        by_cases hlk : k < n
        · have hnl : n < (fvs (els p xs)).length := by rw [HL1.out]; exact hlt
          have hkl : k < (fvs (els p xs)).length := by rw [HL1.out]; omega
          obtain ⟨ad, rfl, hab, hc1⟩ := hsl2.at_ hnl
          obtain ⟨ad', he, _, hc2⟩ := hsl2.at_ hkl
          injection he with he
          subst he
          have i1 : (0 : Int) ≤ n := by omega
          have i2 : (n : Int) < len := by omega
          have i3 : (0 : Int) ≤ k := by omega
          have i4 : (k : Int) < len := by omega
          have hnl' : n < (els p xs).length := by simpa using hnl
          have hkl' : k < (els p xs).length := by simpa using hkl
          have e1 : (fvs (els p xs))[n] = fv (els p xs)[n] := by simp
          have e2 : (fvs (els p xs))[k] = fv (els p xs)[k] := by simp
          rw [e1] at hc1
          rw [e2] at hc2
          obtain ⟨x, hx⟩ : ∃ x, x = (els p xs)[n] := ⟨_, rfl⟩
          obtain ⟨y, hy⟩ : ∃ y, y = (els p xs)[k] := ⟨_, rfl⟩
          rw [← hx] at hc1
          rw [← hy] at hc2
          by_cases hxy : x = y
          · have t1 : (fv x == fv y) = true := by rw [hxy]; simp
            have hnd := not_nodup (l := els p xs) (i := n) (k := k) hnl' hlk (by rw [← hx, ← hy]; exact hxy)
            have hnb := ndB_false hnd
            have HB := Lib.hid hnb
            clear hnb hnd hx hy hxy e1 e2
            go_wp2
            go_quiet (fail)
            go_wp2
            go_ret
            exact ⟨ret_bool HB.out.symm, below_drewN hb2 _⟩
          · have t1 : (fv x == fv y) = false := by rw [beq_eq_false_iff_ne]; exact fun h => hxy (fv_inj h)
            have hno2 : ∀ (c : Nat) (hc : c < k + 1) (h : n < (els p xs).length) (h' : c < (els p xs).length), (els p xs)[n] ≠ (els p xs)[c] := fun c hc h h' => by
              by_cases hck : c = k
              · subst hck; rw [← hx, ← hy]; exact hxy
              · exact HN2.out c (by omega) h h'
            have H3 := Lib.hid hno2
            clear hno2 hx hy hxy e1 e2
            go_wp2
            go_quiet (fail)
            go_wp2
            go_roundw
            case rel => exact ⟨⟨k + 1, by omega, by go_num, H3.out⟩, hsl2, below_drewN hb2 _⟩
            case measure => simp [intOf]; omega
        · obtain rfl : k = n := by omega
          go_wp2
          go_roundw
          case rel =>
            refine ⟨⟨k + 1, by rw [← HL.out]; omega, by go_num, fun a c ha hc h => ?_⟩, hsl2, hb2⟩
            by_cases hak : a = k
            · subst hak; exact HN2.out c hc h (by omega)
            · exact HNO.out a c (by omega) hc h
          case measure => simp [intOf]; omega
    · obtain rfl : n = len := by omega
      have hnb := ndB_true (l := els p xs) (nodup_of_lt (fun i k hi hk => HNO.out i k (by rw [HL.out]; simpa using hi) hk hi))
      have HB := Lib.hid hnb
      clear hnb
      go_wp2
      go_ret
      exact ⟨ret_bool HB.out.symm, hb1⟩
end Go.Proofs.YtpkhcncempoohaaGreatDoor

namespace Go.Proofs.YtpkhcncempoohaaGreatDoor
open Go.RowKit Go.Extern.Stop Go.Stop Go.Extern Zp
theorem tas_valueOf27 (t : Addr) (w : World) : (ReflectliteValue.unpack (.iface 142 (.pointer (some t)))).run Tryz.prog w
    = .ok (.agg #[.pointer (some ⟨9, 142, none⟩), .pointer (some ⟨w.heap.size, 0, none⟩), .int .u64 150]) (w.alloc (.cells #[.pointer (some t)] 142)) := by kernel_rfl
theorem tas_type27 (a : Addr) (w : World) : (ReflectliteValue.methodAny (ReflectliteValue.valueError "reflectlite.Value.Type" 0) (fun t _ _ _ => ReflectliteType.toType t) #[.agg #[.pointer (some ⟨9, 142, none⟩), .pointer (some a), .int .u64 150]]).run Tryz.prog w
    = .ok (.iface 219 (.agg #[.pointer (some ⟨9, 142, none⟩)])) w := by kernel_rfl
theorem tas_methodKind (h : Value) (w : World) : (Go.method 411 219 (.agg #[h]) "Kind").run Tryz.prog w = .ok (230, h) w := by kernel_rfl
theorem tas_kind27 (w : World) : ((ReflectliteType.abiMethod fun t => (fun a : Nat => Value.int IntKind.u8 (a : Int)) <$> Rtype.kind t) #[.pointer (some ⟨9, 142, none⟩)]).run Tryz.prog w = .ok (.int .u8 22) w := by kernel_rfl
theorem tas_kind25 (w : World) : ((ReflectliteType.abiMethod fun t => (fun a : Nat => Value.int IntKind.u8 (a : Int)) <$> Rtype.kind t) #[.pointer (some ⟨9, 64, none⟩)]).run Tryz.prog w = .ok (.int .u8 2) w := by kernel_rfl
theorem rlm (z : Sem Value) (f : TypeId → Addr → Nat → Nat → Sem Value) (v : Value) :
    ReflectliteValue.method z f #[v] = (do match ← ReflectliteValue.parts v with | none => z | some (t, a, fl) => f t a fl (fl % 32)) := rfl
theorem tas_parts27 (a : Addr) (w : World) : (ReflectliteValue.parts (.agg #[.pointer (some ⟨9, 142, none⟩), .pointer (some a), .int .u64 150])).run Tryz.prog w = .ok (some (142, a, 150)) w := by kernel_rfl
theorem tas_isNil27 (a p : Addr) (W : World) (ha : W.cell? a = some (.pointer (some p))) :
    (ReflectliteValue.method (ReflectliteValue.valueError "reflectlite.Value.IsNil" 0) ReflectliteValue.isNil #[.agg #[.pointer (some ⟨9, 142, none⟩), .pointer (some a), .int .u64 150]]).run Tryz.prog W = .ok (.bool false) W := by
  rw [rlm]
  simp only [Sem.run_bind, tas_parts27, Result.andThen]
  simp [ReflectliteValue.isNil, loadVar, isAgg, underlying, Tryz.underlying142, ha, Result.andThen]
theorem tas_methodElem (h : Value) (w : World) : (Go.method 411 219 (.agg #[h]) "Elem").run Tryz.prog w = .ok (241, .agg #[h]) w := by kernel_rfl
theorem tas_methodImplements (h : Value) (w : World) : (Go.method 411 219 (.agg #[h]) "Implements").run Tryz.prog w = .ok (242, .agg #[h]) w := by kernel_rfl
theorem tas_methodAssignableTo (h : Value) (w : World) : (Go.method 411 219 (.agg #[h]) "AssignableTo").run Tryz.prog w = .ok (239, .agg #[h]) w := by kernel_rfl
theorem tas_elem27 (w : World) : (ReflectliteType.method ReflectliteType.elem #[.agg #[.pointer (some ⟨9, 142, none⟩)]]).run Tryz.prog w = .ok (.iface 219 (.agg #[.pointer (some ⟨9, 64, none⟩)])) w := by kernel_rfl
theorem tas_implements25 (w : World) : (ReflectliteType.relation "Implements" ReflectliteType.implements_ #[.agg #[.pointer (some ⟨9, 64, none⟩)], .iface 219 (.agg #[.pointer (some ⟨9, 36, none⟩)])]).run Tryz.prog w = .ok (.bool true) w := by kernel_rfl
theorem tas_typeOf25 (v : Value) (w : World) : (ReflectliteType.typeOf #[.iface 64 v]).run Tryz.prog w = .ok (.iface 219 (.agg #[.pointer (some ⟨9, 64, none⟩)])) w := by kernel_rfl
theorem tas_assignable25 (w : World) : (ReflectliteType.relation "AssignableTo" ReflectliteType.assignableTo #[.agg #[.pointer (some ⟨9, 64, none⟩)], .iface 219 (.agg #[.pointer (some ⟨9, 64, none⟩)])]).run Tryz.prog w = .ok (.bool true) w := by kernel_rfl
theorem tas_valueOf25 (e : Int) (w : World) : (ReflectliteValue.unpack (.iface 64 (.int .i64 e))).run Tryz.prog w
    = .ok (.agg #[.pointer (some ⟨9, 64, none⟩), .pointer (some ⟨w.heap.size, 0, none⟩), .int .u64 130]) (w.alloc (.cells #[.int .i64 e] 64)) := by kernel_rfl
theorem tas_elemOf27 (w : World) : (Rtype.elem? 142).run Tryz.prog w = .ok (some 64) w := by kernel_rfl
theorem tas_mk25 (p : Addr) (w : World) : (ReflectliteValue.mk 64 p ReflectliteValue.flagAddr).run Tryz.prog w = .ok (.agg #[.pointer (some ⟨9, 64, none⟩), .pointer (some p), .int .u64 386]) w := by kernel_rfl
theorem tas_elemV27 (a p : Addr) (W : World) (ha : W.cell? a = some (.pointer (some p))) :
    (ReflectliteValue.method (ReflectliteValue.valueError "reflectlite.Value.Elem" 0) ReflectliteValue.elem #[.agg #[.pointer (some ⟨9, 142, none⟩), .pointer (some a), .int .u64 150]]).run Tryz.prog W
      = .ok (.agg #[.pointer (some ⟨9, 64, none⟩), .pointer (some p), .int .u64 386]) W := by
  rw [rlm]
  simp only [Sem.run_bind, tas_parts27, Result.andThen]
  simp [ReflectliteValue.elem, loadVar, isAgg, underlying, Tryz.underlying142, ha, Result.andThen, tas_elemOf27, tas_mk25]
theorem rls (v x : Value) : ReflectliteValue.set #[v, x] = (do
    let (some (dst, a, fl), some (src, b, _)) := (← ReflectliteValue.parts v, ← ReflectliteValue.parts x)
      | unsupported (.noEntry "extern/(internal/reflectlite.Value).Set.zeroValue")
    if fl / ReflectliteValue.flagAddr % 2 == 0 then unsupported (.noEntry "extern/(internal/reflectlite.Value).Set.unaddressable")
    let val ← loadVar src b
    if ← Rtype.directlyAssignable dst src then storeVar dst a val
    else if ← Rtype.implements dst src then
      if (← Rtype.kind src) == 20 then
        match val with
        | .nilIface => unsupported (.noEntry "extern/reflectlite: a nil value of one interface type handed on as a value of another")
        | _ => storeVar dst a val
      else storeVar dst a (.iface src val)
    else panicString ("reflectlite.Set: value of type " ++ (← Rtype.spelt src) ++ " is not assignable to type " ++ (← Rtype.spelt dst))
    pure (.tuple #[])) := rfl
theorem tas_parts25a (a : Addr) (w : World) : (ReflectliteValue.parts (.agg #[.pointer (some ⟨9, 64, none⟩), .pointer (some a), .int .u64 386])).run Tryz.prog w = .ok (some (64, a, 386)) w := by kernel_rfl
theorem tas_parts25 (a : Addr) (w : World) : (ReflectliteValue.parts (.agg #[.pointer (some ⟨9, 64, none⟩), .pointer (some a), .int .u64 130])).run Tryz.prog w = .ok (some (64, a, 130)) w := by kernel_rfl
theorem tas_direct25 (w : World) : (Rtype.directlyAssignable 64 64).run Tryz.prog w = .ok true w := by kernel_rfl
theorem tas_set25 (ta b : Addr) (e : Int) (old : Value) (W : World) (hb : W.cell? b = some (.int .i64 e)) (ht : W.cell? ta = some old) (hf : W.frozen? ta = false) :
    (ReflectliteValue.set #[.agg #[.pointer (some ⟨9, 64, none⟩), .pointer (some ta), .int .u64 386], .agg #[.pointer (some ⟨9, 64, none⟩), .pointer (some b), .int .u64 130]]).run Tryz.prog W
      = .ok (.tuple #[]) (W.setCell ta (.int .i64 e)) := by
  rw [rls]
  simp only [Sem.run_bind, tas_parts25a, tas_parts25, Result.andThen]
  simp [ReflectliteValue.flagAddr, loadVar, isAgg, underlying, Tryz.underlying64, hb, Result.andThen, tas_direct25, storeVar, Value.cells, storeCells, Addr.add]
  rw [run_store Tryz.prog W ta _ _ (by rfl)]
  simp [ht, hf]
set_option maxHeartbeats 4000000 in
theorem as_hit (e : Int) (t : Addr) (old : Value) (w : World) (hg : w.cell? ⟨0, 0, none⟩ = some (.iface 219 (.agg #[.pointer (some ⟨9, 36, none⟩)]))) (ht0 : w.cell? t = some old) (hf0 : w.frozen? t = false) :
    Calls Tryz.prog 76 #[.iface 64 (.int .i64 e), .iface 142 (.pointer (some t))] w fun ev w' => ev = .returned (.bool true) ∧ w' = ((((w.alloc (.cells #[.pointer (some t)] 142)).alloc (.cells #[.pointer (some ⟨9, 142, none⟩), .pointer (some ⟨w.heap.size, 0, none⟩), .int .u64 150] 189)).alloc (.cells #[.pointer (some ⟨9, 142, none⟩), .pointer (some ⟨w.heap.size, 0, none⟩), .int .u64 150] 189)).alloc (.cells #[.int .i64 e] 64)).setCell t (.int .i64 e) := by
  have h6 := @run_callFunc_extern Tryz.prog 118 _ (fun args => ReflectliteValue.unpack (args.getD 0 (.tuple #[]))) Tryz.func118 (by kernel_rfl) (by kernel_rfl) (by kernel_rfl) (by kernel_rfl)
  have h7 := @run_callFunc_extern Tryz.prog 119 _ (ReflectliteValue.methodAny (ReflectliteValue.valueError "reflectlite.Value.Type" 0) (fun t _ _ _ => ReflectliteType.toType t)) Tryz.func119 (by kernel_rfl) (by kernel_rfl) (by kernel_rfl) (by kernel_rfl)
  have h8 := @run_callFunc_extern Tryz.prog 120 _ (ReflectliteValue.method (ReflectliteValue.valueError "reflectlite.Value.IsNil" 0) ReflectliteValue.isNil) Tryz.func120 (by kernel_rfl) (by kernel_rfl) (by kernel_rfl) (by kernel_rfl)
  have h27 := @run_callFunc_extern Tryz.prog 230 _ (ReflectliteType.abiMethod fun t => do pure (.int .u8 (← Rtype.kind t))) Tryz.func230 (by kernel_rfl) (by kernel_rfl) (by kernel_rfl) (by kernel_rfl)
  have h37 := @run_callFunc_extern Tryz.prog 241 _ (ReflectliteType.method ReflectliteType.elem) Tryz.func241 (by kernel_rfl) (by kernel_rfl) (by kernel_rfl) (by kernel_rfl)
  have h38 := @run_callFunc_extern Tryz.prog 242 _ (ReflectliteType.relation "Implements" ReflectliteType.implements_) Tryz.func242 (by kernel_rfl) (by kernel_rfl) (by kernel_rfl) (by kernel_rfl)
  have h10 := @run_callFunc_extern Tryz.prog 160 _ ReflectliteType.typeOf Tryz.func160 (by kernel_rfl) (by kernel_rfl) (by kernel_rfl) (by kernel_rfl)
  have h35 := @run_callFunc_extern Tryz.prog 239 _ (ReflectliteType.relation "AssignableTo" ReflectliteType.assignableTo) Tryz.func239 (by kernel_rfl) (by kernel_rfl) (by kernel_rfl) (by kernel_rfl)
  have h11 := @run_callFunc_extern Tryz.prog 161 _ (ReflectliteValue.method (ReflectliteValue.valueError "reflectlite.Value.Elem" 0) ReflectliteValue.elem) Tryz.func161 (by kernel_rfl) (by kernel_rfl) (by kernel_rfl) (by kernel_rfl)
  have h12 := @run_callFunc_extern Tryz.prog 162 _ ReflectliteValue.set Tryz.func162 (by kernel_rfl) (by kernel_rfl) (by kernel_rfl) (by kernel_rfl)
  have tO := tas_typeOf25
  have mA := tas_methodAssignableTo
  have a25 := tas_assignable25
  have v25 := tas_valueOf25
  have f6 := tas_valueOf27
  have f7 := tas_type27
  have mK := tas_methodKind
  have mE := tas_methodElem
  have mI := tas_methodImplements
  have k27 := tas_kind27
  have k25 := tas_kind25
  have e27 := tas_elem27
  have i25 := tas_implements25
  have n8 := tas_isNil27 ⟨w.heap.size, 0, none⟩ t ((w.alloc (.cells #[.pointer (some t)] 142)).alloc (.cells #[.pointer (some ⟨9, 142, none⟩), .pointer (some ⟨w.heap.size, 0, none⟩), .int .u64 150] 189)) (by simp)
  have hlt : 0 < w.heap.size := block_lt_of_cell hg
  have hg2 : ((w.alloc (.cells #[.pointer (some t)] 142)).alloc (.cells #[.pointer (some ⟨9, 142, none⟩), .pointer (some ⟨w.heap.size, 0, none⟩), .int .u64 150] 189)).cell? ⟨0, 0, none⟩ = some (.iface 219 (.agg #[.pointer (some ⟨9, 36, none⟩)])) := by
    rw [World.cell?_alloc_lt _ _ ⟨0, 0, none⟩ (by simp), World.cell?_alloc_lt _ _ ⟨0, 0, none⟩ hlt]; exact hg
  have htl : t.block < w.heap.size := by
    rcases Nat.lt_or_ge t.block w.heap.size with h | h
    · exact h
    · simp [World.cell?, Array.getElem?_eq_none h] at ht0
  have el := tas_elemV27 ⟨w.heap.size, 0, none⟩ t (((w.alloc (.cells #[.pointer (some t)] 142)).alloc (.cells #[.pointer (some ⟨9, 142, none⟩), .pointer (some ⟨w.heap.size, 0, none⟩), .int .u64 150] 189)).alloc (.cells #[.pointer (some ⟨9, 142, none⟩), .pointer (some ⟨w.heap.size, 0, none⟩), .int .u64 150] 189)) (by rw [World.cell?_alloc_lt _ _ ⟨w.heap.size, 0, none⟩ (by simp; omega)]; simp)
  have st := tas_set25 t ⟨w.heap.size + 1 + 1 + 1, 0, none⟩ e old ((((w.alloc (.cells #[.pointer (some t)] 142)).alloc (.cells #[.pointer (some ⟨9, 142, none⟩), .pointer (some ⟨w.heap.size, 0, none⟩), .int .u64 150] 189)).alloc (.cells #[.pointer (some ⟨9, 142, none⟩), .pointer (some ⟨w.heap.size, 0, none⟩), .int .u64 150] 189)).alloc (.cells #[.int .i64 e] 64))
    (by rw [World.cell?_alloc_at _ _ _ _ (by simp)]; rfl)
    (by rw [World.cell?_alloc_lt _ _ t (by simp; omega), World.cell?_alloc_lt _ _ t (by simp; omega), World.cell?_alloc_lt _ _ t (by simp; omega), World.cell?_alloc_lt _ _ t htl]; exact ht0)
    (by rw [World.frozen?_alloc_old _ _ t (by simp; omega), World.frozen?_alloc_old _ _ t (by simp; omega), World.frozen?_alloc_old _ _ t (by simp; omega), World.frozen?_alloc_old _ _ t (Nat.ne_of_lt htl)]; exact hf0)
  go_enter Tryz.func76, Tryz.ntmps76
  go_wp2
  refine wp_loop_rounds 1 ?_
  rw [rounds_succ]
  go_wp2
  go_ret
  exact ⟨rfl, rfl⟩
end Go.Proofs.YtpkhcncempoohaaGreatDoor

namespace Go.Proofs.YtpkhcncempoohaaGreatDoor
open Go.RowKit Zp
inductive New_ (p : Int) (w : World) (e : Ending) (w' : World) : Prop
  | no (h : ¬ (3 ≤ p ∧ p ≤ 2147483647 ∧ IsPrime p.toNat)) (he : e = NoField) (hw : w = w')
  | yes (n : Nat) (h : p = n) (h3 : 3 ≤ n) (hm : n ≤ 2147483647) (hp : IsPrime n) (hF : ∀ h0 : NeZero n, MadeField n w e w')
theorem new_all (p : Int) (w : World) : Calls Tryz.prog 19 #[vi p] w fun e w' => New_ p w e w' := by
  by_cases h : p < 3 ∨ 2147483647 < p
  · exact (new_no p w h).mono fun e w' ⟨h1, h2⟩ => .no (by omega) h1 h2
  · obtain ⟨n, rfl⟩ := Int.eq_ofNat_of_zero_le (a := p) (by omega)
    by_cases hp : IsPrime n
    · haveI := hp.ne
      exact (new_prime n w (by omega) (by omega) hp).mono fun e w' hm => .yes n rfl (by omega) (by omega) hp (fun h0 => hm)
    · exact (new_composite n w (by omega) (by omega) hp).mono fun e w' ⟨h1, h2⟩ => .no (by rintro ⟨_, _, h⟩; exact hp (by simpa using h)) h1 h2
abbrev HasField (p : Int) : Prop := 3 ≤ p ∧ p ≤ 2147483647 ∧ IsPrime p.toNat
theorem new_none (p : Int) (w : World) (h : ¬ HasField p) : Calls Tryz.prog 19 #[vi p] w fun e w' => e = NoField ∧ w = w' :=
  (new_all p w).mono fun e w' h' => by
    cases h' with
    | no _ h1 h2 => exact ⟨h1, h2⟩
    | yes n h1 h3 hm hp _ => exact absurd ⟨by omega, by omega, by rw [h1]; simpa using hp⟩ h
end Go.Proofs.YtpkhcncempoohaaGreatDoor

namespace Go.Proofs.YtpkhcncempoohaaGreatDoor
open Go.RowKit Zp
def Typed (w : World) : Prop := w.cell? ⟨0, 0, none⟩ = some (.iface 219 (.agg #[.pointer (some ⟨9, 36, none⟩)]))
theorem Typed.below {w w' : World} (h : Typed w) (hb : Below w.heap.size w w') : Typed w' := (hb.cell (p := ⟨0, 0, none⟩) (block_lt_of_cell h)).trans h
theorem Typed.drewN {w : World} (h : Typed w) (k : Nat) : Typed (w.drewN k) := h
def errV (k : Int) : Value := if k = 0 then .nilIface else .iface 64 (.int .i64 k)
theorem errV_ne {k : Int} (h : k ≠ 0) : errV k = .iface 64 (.int .i64 k) := if_neg h
theorem told_nil (w : World) : Calls Tryz.prog 42 #[.nilIface] w fun e w' => e = .returned (vi 0) ∧ w = w' := by
  go_enter Tryz.func42, Tryz.ntmps42
  go_wp2
  go_ret
  exact ⟨rfl, rfl⟩
set_option maxHeartbeats 1000000 in
theorem told_errno (k : Int) (w : World) (hg : Typed w) :
    Calls Tryz.prog 42 #[.iface 64 (.int .i64 k)] w fun e w' => SaysW (vi k) w e w' := by
  have hgl := block_lt_of_cell hg
  have hgA : (w.alloc (.cells #[vi 0] 64)).cell? ⟨0, 0, none⟩ = some (.iface 219 (.agg #[.pointer (some ⟨9, 36, none⟩)])) := by
    rw [World.cell?_alloc_lt _ _ ⟨0, 0, none⟩ hgl]; exact hg
  have htA : (w.alloc (.cells #[vi 0] 64)).cell? ⟨w.heap.size, 0, none⟩ = some (vi 0) := by simp
  have hfA : (w.alloc (.cells #[vi 0] 64)).frozen? ⟨w.heap.size, 0, none⟩ = false := by simp
  have hbA : Below w.heap.size w (w.alloc (.cells #[vi 0] 64)) := (Below.refl _ _).alloc (Nat.le_refl _) _
  have hs1 : w.heap.size < (w.alloc (.cells #[vi 0] 64)).heap.size := by simp
  have has := as_hit k ⟨w.heap.size, 0, none⟩ (vi 0) _ hgA htA hfA
  have has2 : Calls Tryz.prog 76 #[.iface 64 (.int .i64 k), .iface 142 (.pointer (some ⟨w.heap.size, 0, none⟩))] (w.alloc (.cells #[vi 0] 64)) fun e w' => e = .returned (.bool true) ∧ Below w.heap.size w w' ∧ w'.cell? ⟨w.heap.size, 0, none⟩ = some (vi k) :=
    has.mono fun e w' ⟨h1, h2⟩ => ⟨h1, by
      rw [h2]
      refine Below.setCell ?_ (by simp) _
      exact (((hbA.alloc (by omega) _).alloc (by simp <;> omega) _).alloc (by simp <;> omega) _).alloc (by simp <;> omega) _, by
      rw [h2]
      refine World.cell?_setCell_same _ _ _ (u := vi 0) ?_
      rw [World.cell?_alloc_lt _ _ _ (by simp <;> omega), World.cell?_alloc_lt _ _ _ (by simp <;> omega), World.cell?_alloc_lt _ _ _ (by simp <;> omega), World.cell?_alloc_lt _ _ _ (by simp <;> omega)]
      exact htA⟩
  have HAS := Lib.hid has2
  clear has has2 hgA hfA htA
  go_enter Tryz.func42, Tryz.ntmps42
  go_wp2_with fail
  refine (HAS.out).mono ?_
  rintro e w1 ⟨rfl, hb1, hc1⟩
  go_wp2
  go_ret
  exact ⟨rfl, hb1⟩
theorem told_any (k : Int) (w : World) (hg : Typed w) : Calls Tryz.prog 42 #[errV k] w fun e w' => SaysW (vi k) w e w' := by
  by_cases h : k = 0
  · subst h
    exact (told_nil w).mono fun e w' ⟨h1, h2⟩ => ⟨h1, h2 ▸ Below.refl _ _⟩
  · rw [errV_ne h]
    exact told_errno k w hg
set_option maxHeartbeats 1000000 in
theorem error_any (k e : Int) (w : World) (hg : Typed w) : Calls Tryz.prog 15 #[errV k, vi e] w fun x w' => SaysW (.bool (k == e)) w x w' := by
  have ht := Lib.hid (told_any k w hg)
  generalize errV k = v at ht
  obtain ⟨B, hB⟩ : ∃ B, (k == e) = B := ⟨_, rfl⟩
  rw [hB]
  go_enter Tryz.func15, Tryz.ntmps15
  go_wp2_with fail
  refine (ht.out).mono ?_
  rintro x w1 ⟨rfl, hb1⟩
  go_wp2
  go_ret
  exact ⟨rfl, hb1⟩
end Go.Proofs.YtpkhcncempoohaaGreatDoor

namespace Go.Proofs.YtpkhcncempoohaaGreatDoor
open Go.ChangeShapes Go.WideShapes Go.ChangeAt Go.RowKit
theorem lown : ownKnob Tryz.prog.godebug = none := by kernel_rfl
theorem llaidOut : laidOutB Tryz.prog = true := by kernel_rfl
theorem let_ : Tryz.prog.globalNamed "errors.errorType" = some 0 := by kernel_rfl
theorem lrt : (Tryz.prog.cutTypes.find? (·.1 == "internal/reflectlite.rtype")).map (·.2) = some 219 := by kernel_rfl
theorem lsize : Tryz.prog.types.size + 100 = 411 := by kernel_rfl
theorem loneRow : ((List.range (411 - 100)).filter fun t => Tryz.prog.rowNamed t [101, 114, 114, 111, 114]) = [36] := by kernel_rfl
theorem lhandles : (Rows.topSoundRow.laid.filter fun x => x.2.handleName?.isSome) = [("errors.errorType", Rows.laid_errors_errorType)] := by kernel_rfl
theorem typed_of_laid {W : World} (h : laidMetH Tryz.prog Rows.topSoundRow.laid W) : Typed W := by
  unfold laidMetH at h
  rw [lhandles] at h
  obtain ⟨name, u, ty, e1, e2, e3, e4, e5⟩ := h.2 _ (List.mem_singleton.2 rfl)
  have en : name = [101, 114, 114, 111, 114] := (Option.some.inj e1).symm
  subst en
  obtain rfl := Option.some.inj (lrt.symm.trans e2)
  have hs := lsize
  have hm : ty ∈ (List.range (411 - 100)).filter fun t => Tryz.prog.rowNamed t [101, 114, 114, 111, 114] := List.mem_filter.2 ⟨List.mem_range.2 (by omega), e4⟩
  rw [loneRow] at hm
  obtain rfl := List.mem_singleton.1 hm
  have hh : typeHandle Tryz.prog 36 = .pointer (some ⟨9, 36, none⟩) := by kernel_rfl
  rw [hh] at e5
  simpa [Typed] using World.var?_cell let_ e5 0
noncomputable def laidWorld (os : Os) : World :=
  let w0 := World.doorLaid Tryz.prog 79 os
  { w0 with heap := w0.heap.modify 2 fun
      | .cells _ t frozen => .cells (match Go.Pinned.utf8First with | .agg l => (l.map fun | .lit (.int k z) => Value.int k z | _ => Value.int .u8 0).toArray | _ => #[]) t frozen
      | o => o }
theorem laidWorld_met (os : Os) (args : Array Value) : laidMetH Tryz.prog Rows.topSoundRow.laid ((laidWorld os).forCall (fun _ _ => 0) ⟨#[], args, []⟩).memory :=
  laidMetH_of_parts (laidMet_of_run3 8 (by kernel_rfl) (by kernel_rfl) (by kernel_rfl)) (by kernel_rfl)
end Go.Proofs.YtpkhcncempoohaaGreatDoor

namespace Go.Proofs.YtpkhcncempoohaaGreatDoor
open Go.Shelf
def shPrefix_ren : Go.Shelf.Ren := ⟨fun | 99 => 80 | 206 => 125 | n => n, fun | 9 => 9 | 4 => 4 | 3 => 3 | n => n, fun | n => n⟩
theorem shPrefix : Go.Proofs.Lays.n99 Tryz.prog shPrefix_ren := {
  mixed := by kernel_rfl
  f99 := Tryz.func80.trans (congrArg some (by kernel_rfl))
  f206 := Tryz.func125.trans (congrArg some (by kernel_rfl))
  t3 := Tryz.underlying3
  a3 := Tryz.isAgg3
  z3 := Tryz.sizeOf3
  v3 := Tryz.zeroValue3
  t4 := Tryz.underlying4
  a4 := Tryz.isAgg4
  z4 := Tryz.sizeOf4
  v4 := Tryz.zeroValue4
  t9 := Tryz.underlying9
  a9 := Tryz.isAgg9
  z9 := Tryz.sizeOf9
  v9 := Tryz.zeroValue9 }
def shIndexB_ren : Go.Shelf.Ren := ⟨fun | 137 => 81 | 217 => 126 | 266 => 170 | n => n, fun | 9 => 9 | 5 => 5 | 3 => 3 | n => n, fun | n => n⟩
theorem shIndexB : Go.Proofs.Lays.n137 Tryz.prog shIndexB_ren := {
  mixed := by kernel_rfl
  f137 := Tryz.func81.trans (congrArg some (by kernel_rfl))
  f217 := Tryz.func126.trans (congrArg some (by kernel_rfl))
  f266 := Tryz.func170.trans (congrArg some (by kernel_rfl))
  t3 := Tryz.underlying3
  a3 := Tryz.isAgg3
  z3 := Tryz.sizeOf3
  v3 := Tryz.zeroValue3
  t5 := Tryz.underlying5
  a5 := Tryz.isAgg5
  z5 := Tryz.sizeOf5
  v5 := Tryz.zeroValue5
  t9 := Tryz.underlying9
  a9 := Tryz.isAgg9
  z9 := Tryz.sizeOf9
  v9 := Tryz.zeroValue9 }
def shTrim_ren : Go.Shelf.Ren := ⟨fun | 160 => 124 | 232 => 164 | 231 => 163 | 227 => 165 | 234 => 167 | 233 => 166 | 236 => 169 | 235 => 168 | 228 => 178 | 271 => 181 | 151 => 180 | 197 => 179 | 120 => 185 | 152 => 184 | 260 => 183 | 137 => 81 | 119 => 188 | 224 => 189 | 225 => 190 | 217 => 126 | 266 => 170 | n => n, fun | 9 => 9 | 4 => 4 | 3 => 3 | 5 => 5 | 117 => 235 | 116 => 234 | 0 => 0 | 124 => 238 | 21 => 21 | 105 => 242 | 46 => 140 | 119 => 248 | 139 => 251 | 138 => 250 | n => n, fun | 3 => 2 | 4 => 3 | n => n⟩
theorem shTrim : Go.Proofs.Lays.n160 Tryz.prog shTrim_ren := {
  mixed := by kernel_rfl
  f119 := Tryz.func188.trans (congrArg some (by kernel_rfl))
  f120 := Tryz.func185.trans (congrArg some (by kernel_rfl))
  f137 := Tryz.func81.trans (congrArg some (by kernel_rfl))
  f151 := Tryz.func180.trans (congrArg some (by kernel_rfl))
  f152 := Tryz.func184.trans (congrArg some (by kernel_rfl))
  f160 := Tryz.func124.trans (congrArg some (by kernel_rfl))
  f197 := Tryz.func179.trans (congrArg some (by kernel_rfl))
  f217 := Tryz.func126.trans (congrArg some (by kernel_rfl))
  f224 := Tryz.func189.trans (congrArg some (by kernel_rfl))
  f225 := Tryz.func190.trans (congrArg some (by kernel_rfl))
  f227 := Tryz.func165.trans (congrArg some (by kernel_rfl))
  f228 := Tryz.func178.trans (congrArg some (by kernel_rfl))
  f231 := Tryz.func163.trans (congrArg some (by kernel_rfl))
  f232 := Tryz.func164.trans (congrArg some (by kernel_rfl))
  f233 := Tryz.func166.trans (congrArg some (by kernel_rfl))
  f234 := Tryz.func167.trans (congrArg some (by kernel_rfl))
  f235 := Tryz.func168.trans (congrArg some (by kernel_rfl))
  f236 := Tryz.func169.trans (congrArg some (by kernel_rfl))
  f260 := Tryz.func183.trans (congrArg some (by kernel_rfl))
  f266 := Tryz.func170.trans (congrArg some (by kernel_rfl))
  f271 := Tryz.func181.trans (congrArg some (by kernel_rfl))
  t0 := Tryz.underlying0
  a0 := Tryz.isAgg0
  z0 := Tryz.sizeOf0
  v0 := Tryz.zeroValue0
  t3 := Tryz.underlying3
  a3 := Tryz.isAgg3
  z3 := Tryz.sizeOf3
  v3 := Tryz.zeroValue3
  t4 := Tryz.underlying4
  a4 := Tryz.isAgg4
  z4 := Tryz.sizeOf4
  v4 := Tryz.zeroValue4
  t5 := Tryz.underlying5
  a5 := Tryz.isAgg5
  z5 := Tryz.sizeOf5
  v5 := Tryz.zeroValue5
  t9 := Tryz.underlying9
  a9 := Tryz.isAgg9
  z9 := Tryz.sizeOf9
  v9 := Tryz.zeroValue9
  t21 := Tryz.underlying21
  a21 := Tryz.isAgg21
  z21 := Tryz.sizeOf21
  v21 := Tryz.zeroValue21
  t46 := Tryz.underlying140
  a46 := Tryz.isAgg140
  z46 := Tryz.sizeOf140
  v46 := Tryz.zeroValue140
  t105 := Tryz.underlying242
  a105 := Tryz.isAgg242
  z105 := Tryz.sizeOf242
  v105 := Tryz.zeroValue242
  t116 := Tryz.underlying234
  a116 := Tryz.isAgg234
  z116 := Tryz.sizeOf234
  t117 := Tryz.underlying235
  a117 := Tryz.isAgg235
  z117 := Tryz.sizeOf235
  v117 := Tryz.zeroValue235
  t119 := Tryz.underlying248
  a119 := Tryz.isAgg248
  z119 := Tryz.sizeOf248
  t124 := Tryz.underlying238
  a124 := Tryz.isAgg238
  z124 := Tryz.sizeOf238
  v124 := Tryz.zeroValue238
  t138 := Tryz.underlying250
  a138 := Tryz.isAgg250
  z138 := Tryz.sizeOf250
  v138 := Tryz.zeroValue250
  t139 := Tryz.underlying251
  a139 := Tryz.isAgg251
  z139 := Tryz.sizeOf251
  v139 := Tryz.zeroValue251
  g3 := by kernel_rfl
  g4 := by kernel_rfl }
def shAtoi_ren : Go.Shelf.Ren := ⟨fun | 172 => 186 | 244 => 191 | 245 => 192 | 247 => 193 | 279 => 194 | 280 => 195 | 281 => 196 | 282 => 197 | 287 => 198 | 316 => 199 | 171 => 201 | 205 => 200 | 321 => 202 | 322 => 203 | 243 => 204 | 246 => 205 | 283 => 206 | 284 => 207 | 285 => 208 | 286 => 209 | 129 => 117 | 317 => 210 | 318 => 211 | 319 => 212 | 320 => 213 | 337 => 214 | 338 => 215 | n => n, fun | 9 => 9 | 3 => 3 | 75 => 36 | 76 => 246 | 4 => 4 | 5 => 5 | 167 => 255 | 37 => 256 | 0 => 0 | 85 => 257 | 2 => 2 | 168 => 259 | 53 => 185 | 175 => 262 | 46 => 140 | 210 => 266 | 127 => 270 | 145 => 273 | 143 => 271 | 21 => 21 | 171 => 275 | 173 => 277 | 212 => 280 | 51 => 183 | 20 => 20 | 213 => 281 | 232 => 282 | 233 => 283 | 80 => 284 | n => n, fun | 15 => 4 | 16 => 5 | 17 => 6 | 18 => 7 | 19 => 8 | n => n⟩
theorem shAtoi : Go.Proofs.LaysC.n172 Tryz.prog shAtoi_ren := {
  mixed := by kernel_rfl
  f129 := Tryz.func117.trans (congrArg some (by kernel_rfl))
  f171 := Tryz.func201.trans (congrArg some (by kernel_rfl))
  f172 := Tryz.func186.trans (congrArg some (by kernel_rfl))
  f205 := Tryz.func200.trans (congrArg some (by kernel_rfl))
  f243 := Tryz.func204.trans (congrArg some (by kernel_rfl))
  f244 := Tryz.func191.trans (congrArg some (by kernel_rfl))
  f245 := Tryz.func192.trans (congrArg some (by kernel_rfl))
  f246 := Tryz.func205.trans (congrArg some (by kernel_rfl))
  f247 := Tryz.func193.trans (congrArg some (by kernel_rfl))
  f279 := Tryz.func194.trans (congrArg some (by kernel_rfl))
  f280 := Tryz.func195.trans (congrArg some (by kernel_rfl))
  f281 := Tryz.func196.trans (congrArg some (by kernel_rfl))
  f282 := Tryz.func197.trans (congrArg some (by kernel_rfl))
  f283 := Tryz.func206.trans (congrArg some (by kernel_rfl))
  f284 := Tryz.func207.trans (congrArg some (by kernel_rfl))
  f285 := Tryz.func208.trans (congrArg some (by kernel_rfl))
  f286 := Tryz.func209.trans (congrArg some (by kernel_rfl))
  f287 := Tryz.func198.trans (congrArg some (by kernel_rfl))
  f316 := Tryz.func199.trans (congrArg some (by kernel_rfl))
  f317 := Tryz.func210.trans (congrArg some (by kernel_rfl))
  f318 := Tryz.func211.trans (congrArg some (by kernel_rfl))
  f319 := Tryz.func212.trans (congrArg some (by kernel_rfl))
  f320 := Tryz.func213.trans (congrArg some (by kernel_rfl))
  f321 := Tryz.func202.trans (congrArg some (by kernel_rfl))
  f322 := Tryz.func203.trans (congrArg some (by kernel_rfl))
  f337 := Tryz.func214.trans (congrArg some (by kernel_rfl))
  f338 := Tryz.func215.trans (congrArg some (by kernel_rfl))
  t0 := Tryz.underlying0
  a0 := Tryz.isAgg0
  z0 := Tryz.sizeOf0
  v0 := Tryz.zeroValue0
  t2 := Tryz.underlying2
  a2 := Tryz.isAgg2
  z2 := Tryz.sizeOf2
  v2 := Tryz.zeroValue2
  t3 := Tryz.underlying3
  a3 := Tryz.isAgg3
  z3 := Tryz.sizeOf3
  v3 := Tryz.zeroValue3
  t4 := Tryz.underlying4
  a4 := Tryz.isAgg4
  z4 := Tryz.sizeOf4
  v4 := Tryz.zeroValue4
  t5 := Tryz.underlying5
  a5 := Tryz.isAgg5
  z5 := Tryz.sizeOf5
  v5 := Tryz.zeroValue5
  t9 := Tryz.underlying9
  a9 := Tryz.isAgg9
  z9 := Tryz.sizeOf9
  v9 := Tryz.zeroValue9
  t20 := Tryz.underlying20
  a20 := Tryz.isAgg20
  z20 := Tryz.sizeOf20
  v20 := Tryz.zeroValue20
  t21 := Tryz.underlying21
  a21 := Tryz.isAgg21
  z21 := Tryz.sizeOf21
  v21 := Tryz.zeroValue21
  t37 := Tryz.underlying256
  a37 := Tryz.isAgg256
  z37 := Tryz.sizeOf256
  v37 := Tryz.zeroValue256
  t46 := Tryz.underlying140
  a46 := Tryz.isAgg140
  z46 := Tryz.sizeOf140
  v46 := Tryz.zeroValue140
  t51 := Tryz.underlying183
  a51 := Tryz.isAgg183
  z51 := Tryz.sizeOf183
  v51 := Tryz.zeroValue183
  t53 := Tryz.underlying185
  a53 := Tryz.isAgg185
  z53 := Tryz.sizeOf185
  v53 := Tryz.zeroValue185
  t75 := Tryz.underlying36
  a75 := Tryz.isAgg36
  z75 := Tryz.sizeOf36
  v75 := Tryz.zeroValue36
  t76 := Tryz.underlying246
  a76 := Tryz.isAgg246
  z76 := Tryz.sizeOf246
  v76 := Tryz.zeroValue246
  t85 := Tryz.underlying257
  a85 := Tryz.isAgg257
  z85 := Tryz.sizeOf257
  v85 := Tryz.zeroValue257
  t127 := Tryz.underlying270
  a127 := Tryz.isAgg270
  z127 := Tryz.sizeOf270
  v127 := Tryz.zeroValue270
  t143 := Tryz.underlying271
  a143 := Tryz.isAgg271
  z143 := Tryz.sizeOf271
  v143 := Tryz.zeroValue271
  t145 := Tryz.underlying273
  a145 := Tryz.isAgg273
  z145 := Tryz.sizeOf273
  v145 := Tryz.zeroValue273
  t167 := Tryz.underlying255
  a167 := Tryz.isAgg255
  z167 := Tryz.sizeOf255
  v167 := Tryz.zeroValue255
  t168 := Tryz.underlying259
  a168 := Tryz.isAgg259
  z168 := Tryz.sizeOf259
  v168 := Tryz.zeroValue259
  t171 := Tryz.underlying275
  a171 := Tryz.isAgg275
  z171 := Tryz.sizeOf275
  v171 := Tryz.zeroValue275
  t173 := Tryz.underlying277
  a173 := Tryz.isAgg277
  z173 := Tryz.sizeOf277
  v173 := Tryz.zeroValue277
  t175 := Tryz.underlying262
  a175 := Tryz.isAgg262
  z175 := Tryz.sizeOf262
  v175 := Tryz.zeroValue262
  t210 := Tryz.underlying266
  a210 := Tryz.isAgg266
  z210 := Tryz.sizeOf266
  v210 := Tryz.zeroValue266
  t212 := Tryz.underlying280
  a212 := Tryz.isAgg280
  z212 := Tryz.sizeOf280
  v212 := Tryz.zeroValue280
  t213 := Tryz.underlying281
  a213 := Tryz.isAgg281
  z213 := Tryz.sizeOf281
  t232 := Tryz.underlying282
  a232 := Tryz.isAgg282
  z232 := Tryz.sizeOf282
  v232 := Tryz.zeroValue282
  t233 := Tryz.underlying283
  a233 := Tryz.isAgg283
  z233 := Tryz.sizeOf283
  v233 := Tryz.zeroValue283
  g15 := by kernel_rfl
  g16 := by kernel_rfl
  g17 := by kernel_rfl
  g18 := by kernel_rfl
  g19 := by kernel_rfl
  t80 := Tryz.underlying284
  a80 := Tryz.isAgg284
  z80 := Tryz.sizeOf284
  v80 := Tryz.zeroValue284
  i0 := by kernel_rfl
  i2 := by kernel_rfl
  i3 := by kernel_rfl
  i4 := by kernel_rfl
  i5 := by kernel_rfl
  i9 := by kernel_rfl
  i20 := by kernel_rfl
  i21 := by kernel_rfl
  i37 := by kernel_rfl
  i46 := by kernel_rfl
  i51 := by kernel_rfl
  i53 := by kernel_rfl
  i75 := by kernel_rfl
  i76 := by kernel_rfl
  i80 := by kernel_rfl
  i85 := by kernel_rfl
  i127 := by kernel_rfl
  i143 := by kernel_rfl
  i145 := by kernel_rfl
  i167 := by kernel_rfl
  i168 := by kernel_rfl
  i171 := by kernel_rfl
  i173 := by kernel_rfl
  i175 := by kernel_rfl
  i210 := by kernel_rfl
  i212 := by kernel_rfl
  i232 := by kernel_rfl
  i233 := by kernel_rfl
  m15 := by kernel_rfl
  m16 := by kernel_rfl
  m17 := by kernel_rfl
  m18 := by kernel_rfl
  m19 := by kernel_rfl
  c0 := by kernel_rfl
  c2 := by kernel_rfl
  c3 := by kernel_rfl
  c4 := by kernel_rfl
  c5 := by kernel_rfl
  c9 := by kernel_rfl
  c20 := by kernel_rfl
  c21 := by kernel_rfl
  c37 := by kernel_rfl
  c46 := by kernel_rfl
  c51 := by kernel_rfl
  c53 := by kernel_rfl
  c75 := by kernel_rfl
  c76 := by kernel_rfl
  c80 := by kernel_rfl
  c85 := by kernel_rfl
  c127 := by kernel_rfl
  c143 := by kernel_rfl
  c145 := by kernel_rfl
  c167 := by kernel_rfl
  c168 := by kernel_rfl
  c171 := by kernel_rfl
  c173 := by kernel_rfl
  c175 := by kernel_rfl
  c210 := by kernel_rfl
  c212 := by kernel_rfl
  c213 := by kernel_rfl
  c232 := by kernel_rfl
  c233 := by kernel_rfl }
end Go.Proofs.YtpkhcncempoohaaGreatDoor
