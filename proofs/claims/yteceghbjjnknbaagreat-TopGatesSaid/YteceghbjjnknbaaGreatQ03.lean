/- A bundle of texts: Dv, St, Un, Sg1, Sn, AppA, Mx. -/
import Derived.Test.YteceghbjjnknbaaGreatQ02
import Derived.Test.YteceghbjjnknbaaGreatQ00
import Derived.Deep.MidRow
import Derived.Deep.WholeRow
import Derived.Deep.RegionHeld3
import Derived.Deep.RegionLaw
import Derived.IntWalk
import Derived.BigQuiet
import Derived.Deep.AppendLies
import Derived.Deep.QuietTactic
import Derived.Outline
import Derived.WalkLawsBesides
import Derived.WalkSpells
set_option linter.unusedVariables false
set_option linter.unusedSimpArgs false
namespace Go.Proofs.YteceghbjjnknbaaGreat
open Go.RowKit Zp
def OwnC {p : Nat} (wr : World) (base g n c : Nat) (L : List (Fin p)) : Prop := L.length = n ∧ Own wr base (.slice (some ⟨g, 0, none⟩) n c) (fvs L)
section
variable {p : Nat} [NeZero p] {wr w' : World} {base g n c : Nat} {L : List (Fin p)}
theorem OwnC.at_ (h : OwnC wr base g n c L) (j : Nat) (hj : j < n) : wr.cell? ⟨g, j, none⟩ = some (vi (fv (co L j))) := by
  have hl := h.1
  have := Own.at_ h.2 (by simp [hl]) j (by simp [hl]; omega)
  rw [this, co_of_lt (by omega), List.getElem_map]
omit [NeZero p] in
theorem OwnC.frozen (h : OwnC wr base g n c L) (j : Nat) : wr.frozen? ⟨g, j, none⟩ = false := Own.frozen_ h.2 (by simp [h.1]) j
omit [NeZero p] in
theorem OwnC.store (h : OwnC wr base g n c L) (j : Nat) (x : Fin p) : OwnC (wr.setCell ⟨g, j, none⟩ (vi (fv x))) base g n c (L.set j x) := by
  refine ⟨by simp [h.1], ?_⟩
  have := Own.store h.2 (by simp [h.1]) j (fv x)
  rwa [← List.map_set] at this
omit [NeZero p] in
theorem OwnC.lt (h : OwnC wr base g n c L) : base ≤ g ∧ g < wr.heap.size := h.2.lt g rfl
omit [NeZero p] in
theorem OwnC.far (h : OwnC wr base g n c L) {q : Addr} (hq : g ≠ q.block) (u : Value) : OwnC (wr.setCell q u) base g n c L := ⟨h.1, h.2.far (fun e => hq (by injection e)) u⟩
omit [NeZero p] in
theorem OwnC.drewN (h : OwnC wr base g n c L) (k : Nat) : OwnC (wr.drewN k) base g n c L := h
omit [NeZero p] in
theorem OwnC.below (h : OwnC wr base g n c L) (hb : Below wr.heap.size wr w') : OwnC w' base g n c L := ⟨h.1, h.2.below hb⟩
omit [NeZero p] in
theorem OwnC.alloc (h : OwnC wr base g n c L) (o : Obj) : OwnC (wr.alloc o) base g n c L := ⟨h.1, h.2.alloc' o⟩
omit [NeZero p] in
theorem OwnC.sl (h : OwnC wr base g n c L) : SL wr (some ⟨g, 0, none⟩) (fvs L) := by
  obtain ⟨A, c, h1, h2⟩ := h.2.len
  injection h1 with h1 _ _
  rw [h1]; exact h2
theorem OwnC.made (w : World) (base n : Nat) (hb : base ≤ w.heap.size) (hc : n * 8 ≤ 281474976710656) : OwnC (p := p) (w.alloc (.cells (zeros n) 3)) base w.heap.size n n (List.replicate n 0) := OwnE.made w base n hb hc
end
theorem ptrim_n (p : Nat) [NeZero p] (hp2 : p ≤ 2147483647) (b : Nat) (A : Option Addr) (n cap : Nat) (xs : List Int) (hml : xs.length = n) (hxs : ∀ n ∈ xs, I64 n) (hreach : n * 8 ≤ 281474976710656) (hcap : n ≤ cap) (w : World) (hc : w.cell? ⟨b, 0, none⟩ = some (vi p)) (hs : SL w A xs) :
    Calls Tryz.prog 123 #[.pointer (some ⟨b, 0, none⟩), .slice A n cap] w fun e w' => Made (fvs (trimL (els p xs))) w e w' := by
  subst hml
  exact trim_any p hp2 b A cap xs hxs hreach hcap w hc hs
end Go.Proofs.YteceghbjjnknbaaGreat

namespace Go.Proofs.YteceghbjjnknbaaGreat
open Go.RowKit Zp
def st (x : Nat → Int) : Array Value := ((List.range 8).map fun i => vi (x i)).toArray
theorem st_size (x : Nat → Int) : (st x).size = 8 := by simp [st]
theorem st_get (x : Nat → Int) {i : Nat} (h : i < 8) : (st x)[i]? = some (vi (x i)) := by simp [st, h]
theorem st_congr {x y : Nat → Int} (h : ∀ i, i < 8 → x i = y i) : st x = st y := by
  unfold st
  congr 1
  exact List.map_congr_left fun i hi => by rw [h i (List.mem_range.1 hi)]
def upd (x : Nat → Int) (i : Nat) (n : Int) (j : Nat) : Int := if j = i then n else x j
theorem st_set (x : Nat → Int) (i : Nat) (n : Int) (h : i < 8) : (st x).setIfInBounds i (vi n) = st (upd x i n) := by
  apply Array.ext_getElem?
  intro j
  rw [Array.getElem?_setIfInBounds]
  by_cases hj : j < 8
  · rw [st_get _ hj, st_size]
    unfold upd
    by_cases e : i = j
    · subst e; rw [if_pos rfl, if_pos h, st_get _ hj, if_pos rfl]
    · rw [if_neg e, st_get _ hj, if_neg (fun e' => e e'.symm)]
  · have h1 : (st (upd x i n))[j]? = none := Array.getElem?_eq_none (by rw [st_size]; omega)
    have h2 : (st x)[j]? = none := Array.getElem?_eq_none (by rw [st_size]; omega)
    rw [h1, h2, if_neg (by omega)]
theorem st_one (x : Nat → Int) : (st x).all (·.oneCell') = true := by
  rw [Array.all_eq_true_iff_forall_mem]
  intro v hv
  simp only [st, List.mem_toArray, List.mem_map] at hv
  obtain ⟨i, _, rfl⟩ := hv
  rfl
def MatAt (w : World) (b o : Nat) {p : Nat} (m : Nat → Nat → Fin p) : Prop := ∀ i j, i < 8 → j < 8 → w.cell? ⟨b, o + i * 8 + j, none⟩ = some (vi (fv (m i j)))
theorem MatAt.row {w : World} {b o p : Nat} {m : Nat → Nat → Fin p} (h : MatAt w b o m) {i : Nat} (hi : i < 8) : w.rangeAt b (o + i * 8) (st fun j => fv (m i j)).toList := fun j v hv => by
  have hj : j < 8 := by
    have := (List.getElem?_eq_some_iff.1 hv).1
    rw [Array.length_toList, st_size] at this
    exact this
  rw [Array.getElem?_toList, st_get _ hj] at hv
  injection hv with hv
  rw [← hv]
  exact h i j hi hj
theorem MatAt.keep {w w' : World} {b o p : Nat} {m : Nat → Nat → Fin p} (h : MatAt w b o m) (hk : ∀ q : Addr, q.block = b → w'.cell? q = w.cell? q) : MatAt w' b o m := fun i j hi hj => (hk _ rfl).trans (h i j hi hj)
theorem info8 (x : Nat → Int) : (Tryz.prog.info? 66).map (·.size) = some (st x).size := by rw [st_size]; kernel_rfl
theorem st_lit (x : Nat → Int) : st x = #[vi (x 0), vi (x 1), vi (x 2), vi (x 3), vi (x 4), vi (x 5), vi (x 6), vi (x 7)] := rfl
theorem st_zero : st (fun _ => 0) = #[vi 0, vi 0, vi 0, vi 0, vi 0, vi 0, vi 0, vi 0] := rfl
theorem below_setRow8 {B g : Nat} {w0 w : World} (hb : Below B w0 w) (hg : B ≤ g) (cs : Array Value) : Below B w0 (w.setRow g cs) :=
  ⟨hb.os, hb.tape, hb.output, by rw [setRow_size]; exact hb.size, fun i hi => (setRow_other w g i cs (by omega)).trans (hb.block i hi)⟩
def apTo {p : Nat} [NeZero p] (m : Nat → Nat → Fin p) (X : Nat → Fin p) (i k : Nat) : Int := if k < i then fv (ap m X k) else 0
def apMid {p : Nat} [NeZero p] (m : Nat → Nat → Fin p) (X : Nat → Fin p) (i j k : Nat) : Int := if k < i then fv (ap m X k) else if k = i then fv (sumT j fun l => m i l * X l) else 0
theorem apMid_start {p : Nat} [NeZero p] (m : Nat → Nat → Fin p) (X : Nat → Fin p) (i : Nat) : st (apMid m X i 0) = st (apTo m X i) := st_congr fun k _ => by
  unfold apMid apTo
  split
  · rfl
  · split
    · rw [sumT, fv_zero]
    · rfl
theorem apMid_done {p : Nat} [NeZero p] (m : Nat → Nat → Fin p) (X : Nat → Fin p) (i : Nat) : st (apMid m X i 8) = st (apTo m X (i + 1)) := st_congr fun k _ => by
  unfold apMid apTo
  by_cases h1 : k < i
  · rw [if_pos h1, if_pos (by omega)]
  · rw [if_neg h1]
    by_cases h2 : k = i
    · rw [if_pos h2, if_pos (by omega), h2]; rfl
    · rw [if_neg h2, if_neg (by omega)]
theorem apMid_step {p : Nat} [NeZero p] (m : Nat → Nat → Fin p) (X : Nat → Fin p) (i j : Nat) : st (upd (apMid m X i j) i (fv (sumT j (fun l => m i l * X l) + m i j * X j))) = st (apMid m X i (j + 1)) := st_congr fun k _ => by
  unfold upd apMid
  by_cases h2 : k = i
  · rw [if_pos h2, if_neg (by omega), if_pos h2, sumT_succ]
  · rw [if_neg h2]
    by_cases h1 : k < i
    · rw [if_pos h1, if_pos h1]
    · rw [if_neg h1, if_neg h2, if_neg h1, if_neg h2]
theorem apMid_at {p : Nat} [NeZero p] (m : Nat → Nat → Fin p) (X : Nat → Fin p) (i j : Nat) : apMid m X i j i = fv (sumT j fun l => m i l * X l) := by unfold apMid; rw [if_neg (by omega), if_pos rfl]
theorem index8 (x : Nat → Int) {j : Nat} (hj : j < 8) (W : World) : (Instr.index 66 (.agg #[vi (x 0), vi (x 1), vi (x 2), vi (x 3), vi (x 4), vi (x 5), vi (x 6), vi (x 7)]) (vi j)).run Tryz.prog W = .ok (vi (x j)) W :=
  match j, hj with
  | 0, _ => by kernel_rfl
  | 1, _ => by kernel_rfl
  | 2, _ => by kernel_rfl
  | 3, _ => by kernel_rfl
  | 4, _ => by kernel_rfl
  | 5, _ => by kernel_rfl
  | 6, _ => by kernel_rfl
  | 7, _ => by kernel_rfl
  | n + 8, h => absurd h (by omega)
theorem Blk.at8 {w : World} {g : Nat} {t : TypeId} {x : Nat → Int} (h : Blk w g t (st x)) {i : Nat} (hi : i < 8) : w.cell? ⟨g, i, none⟩ = some (vi (x i)) := by rw [h.cell, st_get _ hi]
theorem Blk.set8 {w : World} {g : Nat} {t : TypeId} {x : Nat → Int} (h : Blk w g t (st x)) {i : Nat} (hi : i < 8) (n : Int) : Blk (w.setCell ⟨g, i, none⟩ (vi n)) g t (st (upd x i n)) := by
  have := h.set_ i (vi n)
  rwa [st_set _ _ _ hi] at this
def TimesIn {p : Nat} [NeZero p] (m : Nat → Nat → Fin p) (x : Nat → Int) (w : World) (i : Nat) (t : Value) (wr : World) : Prop :=
  ∃ j : Nat, j ≤ 8 ∧ t = vi j ∧ Blk wr w.heap.size 66 (st x) ∧ Blk wr (w.heap.size + 1) 66 (st fun _ => 0) ∧ Blk wr (w.heap.size + 1 + 1) 66 (st (apMid m (fun j => el p (x j)) i j)) ∧ Below w.heap.size w wr
def TimesRel {p : Nat} [NeZero p] (m : Nat → Nat → Fin p) (x : Nat → Int) (w : World) (t : Value) (wr : World) : Prop :=
  ∃ i : Nat, i ≤ 8 ∧ t = vi i ∧ Blk wr w.heap.size 66 (st x) ∧ Blk wr (w.heap.size + 1) 66 (st fun _ => 0) ∧ Blk wr (w.heap.size + 1 + 1) 66 (st (apTo m (fun j => el p (x j)) i)) ∧ Below w.heap.size w wr
set_option maxRecDepth 100000 in
set_option maxHeartbeats 4000000 in
theorem times_any (p S b s bm om : Nat) [NeZero p] (m : Nat → Nat → Fin p) (x : Nat → Int) (hx : ∀ i, I64 (x i)) (w : World) (F : Fld w S b p) (hs0 : w.cell? ⟨s, 0, none⟩ = some (.pointer (some ⟨b, 0, none⟩))) (hm : MatAt w bm om m) :
    Calls Tryz.prog 125 #[.pointer (some ⟨s, 0, none⟩), .pointer (some ⟨bm, om, none⟩), .agg (st x)] w fun e w' => e = .returned (.agg (st fun i => fv (ap m (fun j => el p (x j)) i))) ∧ Below w.heap.size w w' := by
  have hp2 := F.max
  have hcb := F.c0
  have hbl := block_lt_of_cell hcb
  have hsl := block_lt_of_cell hs0
  have hml : bm < w.heap.size := block_lt_of_cell (hm 0 0 (by omega) (by omega))
  have hb1 : Below w.heap.size w (w.alloc (.cells (st x) 66)) := (Below.refl _ _).alloc (Nat.le_refl _) _
  have hb2 := hb1.alloc hb1.size (.cells (st fun _ => 0) 66)
  have hb3 := hb2.alloc hb2.size (.cells (st fun _ => 0) 66)
  have hB0 := ((Blk.new w 66 (st x)).alloc (.cells (st fun _ => 0) 66)).alloc (.cells (st fun _ => 0) 66)
  have hB1 := (Blk.new (w.alloc (.cells (st x) 66)) 66 (st fun _ => 0)).alloc (.cells (st fun _ => 0) 66)
  have hB2 := Blk.new ((w.alloc (.cells (st x) 66)).alloc (.cells (st fun _ => 0) 66)) 66 (st fun _ => 0)
  rw [World.size_alloc] at hB1 hB2
  rw [World.size_alloc] at hB2
  have hB2' : st (fun _ => 0) = st (apTo m (fun j => el p (x j)) 0) := st_congr fun i _ => by unfold apTo; rw [if_neg (by omega)]
  go_enter Tryz.func125, Tryz.ntmps125
  go_wp2
  go_loopw [14] (fun t wr => TimesRel m x w t wr) (fun t _ => 8 - (intOf t).toNat)
  case atStart => exact ⟨0, by omega, rfl, hB0, hB1, by rw [← hB2']; exact hB2, hb3⟩
  case round =>
    obtain ⟨i, hi, rfl, h0, h1, h2, hb⟩ := hrel
    clear hB0 hB1 hB2 hb1 hb2 hb3 hB2'
    by_cases hi8 : i < 8
    · have hmr : MatAt wr bm om m := hm.keep fun q hq => hb.cell (by rw [hq]; exact hml)
      have hr0 : wr.cell? ⟨bm, om + i * 8, none⟩ = some (vi (fv (m i 0))) := hmr i 0 hi8 (by omega)
      have hr1 := hmr i 1 hi8 (by omega)
      have hr2 := hmr i 2 hi8 (by omega)
      have hr3 := hmr i 3 hi8 (by omega)
      have hr4 := hmr i 4 hi8 (by omega)
      have hr5 := hmr i 5 hi8 (by omega)
      have hr6 := hmr i 6 hi8 (by omega)
      have hr7 := hmr i 7 hi8 (by omega)
      have i1 : (0 : Int) ≤ (i : Int) := by omega
      have i2 : (i : Int) < 8 := by omega
      go_wp2
      go_region_held3 (fun w' => w'.cell? ⟨bm, om + i * 8, none⟩ = some (vi (fv (m i 0))) ∧ w'.cell? ⟨bm, om + i * 8 + 1, none⟩ = some (vi (fv (m i 1))) ∧ w'.cell? ⟨bm, om + i * 8 + 2, none⟩ = some (vi (fv (m i 2))) ∧ w'.cell? ⟨bm, om + i * 8 + 3, none⟩ = some (vi (fv (m i 3))) ∧ w'.cell? ⟨bm, om + i * 8 + 4, none⟩ = some (vi (fv (m i 4))) ∧ w'.cell? ⟨bm, om + i * 8 + 5, none⟩ = some (vi (fv (m i 5))) ∧ w'.cell? ⟨bm, om + i * 8 + 6, none⟩ = some (vi (fv (m i 6))) ∧ w'.cell? ⟨bm, om + i * 8 + 7, none⟩ = some (vi (fv (m i 7)))) (first | exact ⟨hr0, hr1, hr2, hr3, hr4, hr5, hr6, hr7⟩ | go_keep) (fail)
      have hba : Below wr.heap.size wr (wr.alloc (.cells (st fun j => fv (m i j)) 66)).drew := below_drewN ((Below.refl _ _).alloc (Nat.le_refl _) _) 1
      have g0 := h0.below hba h0.lt
      have g1 := h1.below hba h1.lt
      have g2 := h2.below hba h2.lt
      have gb := hb.trans (hba.mono hb.size)
      have hix := fun (j : Nat) (hj : j < 8) (W : World) => index8 (fun j => fv (m i j)) hj W
      rw [← apMid_start] at g2
      have hnw : Blk (wr.alloc (.cells (st fun j => fv (m i j)) 66)).drew wr.heap.size 66 (st fun j => fv (m i j)) := Blk.new _ _ _
      go_wp2
      go_loopw [21] (fun t wr => TimesIn m x w i t wr) (fun t _ => 8 - (intOf t).toNat)
      case atStart => exact ⟨0, by omega, rfl, g0, g1, g2, gb⟩
      case round =>
        obtain ⟨j, hj, rfl, h0, h1, h2, hb⟩ := hrel
        by_cases hj8 : j < 8
        · have hcr := (F.below hb F.le).c0
          have hsr : wr.cell? ⟨s, 0, none⟩ = some (.pointer (some ⟨b, 0, none⟩)) := (hb.cell (p := ⟨s, 0, none⟩) hsl).trans hs0
          have cX := h0.at8 hj8
          have cO := h2.at8 hi8
          have fO := h2.frozen i
          rw [apMid_at] at cO
          have hst := apMid_step m (fun j => el p (x j)) i j
          have hxj := hx j
          have hixj := fun W => hix j hj8 W
          have hset := fun (W : World) (u : Fin p) (h : Blk W (w.heap.size + 1 + 1) 66 (st (apMid m (fun j => el p (x j)) i j))) => h.set8 hi8 (fv u)
          obtain ⟨A, hA⟩ : ∃ A, A = sumT j fun l => m i l * el p (x l) := ⟨_, rfl⟩
          rw [← hA] at cO hst
          obtain ⟨T, hT⟩ : ∃ T, T = m i j * el p (x j) := ⟨_, rfl⟩
          obtain ⟨U, hU⟩ : ∃ U, U = A + T := ⟨_, rfl⟩
          rw [← hT, ← hU] at hst
          have hmul := fun W hcW => mul_any p hp2 b (fv (m i j)) (x j) (i64_fv _ hp2) hxj W hcW
          rw [el_fv, ← hT] at hmul
          have hadd := fun W hcW => add_any p hp2 b (fv A) (fv T) (i64_fv _ hp2) (i64_fv _ hp2) W hcW
          rw [el_fv, el_fv, ← hU] at hadd
          have HMUL := Lib.hid hmul
          have HADD := Lib.hid hadd
          have HST := Lib.hid hst
          have HSET := Lib.hid hset
          have j1 : (0 : Int) ≤ (j : Int) := by omega
          have j2 : (j : Int) < 8 := by omega
          have hmx : Tryz.prog.follows .mixedOrders = true := by kernel_rfl
          clear hmul hadd hst hset hA hT hU hxj
          go_wp2
          refine wp_region_quiet_tail 19 hmx (by kernel_rfl) ?_
          simp only [List.take_succ_cons, List.take_zero, List.drop_succ_cons, List.drop_zero]
          repeat (quiet_step (first | (go_at_call 75; exact Calls.quiet_of (HMUL.out _ (by exact hcr))) | (go_at_call 73; exact Calls.quiet_of (HADD.out _ (by exact hcr)))))
          refine wpQuiet_nil ?_
          intro _ hw'
          obtain ⟨nq1, hw''⟩ := hw'
          subst hw''
          have q0 := (h0.drewN nq1).far (p := ⟨w.heap.size + 1 + 1, i, none⟩) (by show w.heap.size ≠ w.heap.size + 1 + 1; omega) (vi (fv U))
          have q1 := (h1.drewN nq1).far (p := ⟨w.heap.size + 1 + 1, i, none⟩) (by show w.heap.size + 1 ≠ w.heap.size + 1 + 1; omega) (vi (fv U))
          have q2 := HSET.out _ U (h2.drewN nq1)
          have qb := (below_drewN hb nq1).setCell (p := ⟨w.heap.size + 1 + 1, i, none⟩) (by show w.heap.size ≤ w.heap.size + 1 + 1; omega) (vi (fv U))
          rw [HST.out] at q2
          go_wp2
          go_roundw
          case rel => exact ⟨j + 1, by omega, by go_num, q0, q1, q2, qb⟩
          case measure => simp [intOf]; omega
        · have ej : j = 8 := by omega
          rw [ej, apMid_done] at h2
          have t1 : ¬ (j : Int) < 8 := by omega
          clear ej
          go_wp2
          go_roundw
          case rel => exact ⟨i + 1, by omega, by go_num, h0, h1, h2, hb⟩
          case measure => simp [intOf]; omega
    · have ei : i = 8 := by omega
      have hres : st (apTo m (fun j => el p (x j)) i) = st fun k => fv (ap m (fun j => el p (x j)) k) := st_congr fun k hk => by unfold apTo; rw [if_pos (by omega)]
      rw [hres] at h2
      obtain ⟨R, hR⟩ : ∃ R : Nat → Int, R = fun k => fv (ap m (fun j => el p (x j)) k) := ⟨_, rfl⟩
      rw [← hR] at h2
      have HR := Lib.hid hR
      clear hR
      have t1 : ¬ (i : Int) < 8 := by omega
      clear ei hres
      go_wp2_with (first | (refine wpList_load_row rfl 66 _ rfl (w.heap.size + 1 + 1) rfl _ _ _ _ h2 Tryz.underlying66 rfl (info8 _) ?_) | (refine wpList_store_row rfl 66 _ _ rfl (w.heap.size + 1) _ rfl rfl _ _ h1 (info8 _) (by rw [st_size, st_size]) (st_one _) ?_))
      have hB1 : Blk (wr.setRow (w.heap.size + 1) (st R)) (w.heap.size + 1) 66 (st R) := setRow_heap _ _ _ _ _ _ h1
      refine bodyPost_ret (v := .agg (st R)) (results_cell_row (P := Tryz.prog) (by rfl) _ _ (w.heap.size + 1) _ _ _ _ (by rfl) hB1 Tryz.underlying66 rfl (info8 _)) rfl ⟨by rw [HR.out], below_setRow8 hb (by omega) _⟩
end Go.Proofs.YteceghbjjnknbaaGreat

namespace Go.Proofs.YteceghbjjnknbaaGreat
open Go.RowKit Zp
def mt {p : Nat} (m : Nat → Nat → Fin p) : Array Value := ((List.range 64).map fun t => vi (fv (m (t / 8) (t % 8)))).toArray
section
variable {p : Nat}
theorem mt_size (m : Nat → Nat → Fin p) : (mt m).size = 64 := by simp [mt]
theorem mt_get (m : Nat → Nat → Fin p) {i j : Nat} (hi : i < 8) (hj : j < 8) : (mt m)[i * 8 + j]? = some (vi (fv (m i j))) := by
  have h : i * 8 + j < 64 := by omega
  have h1 : (i * 8 + j) / 8 = i := by omega
  have h2 : (i * 8 + j) % 8 = j := by omega
  simp [mt, h, h1, h2]
theorem mt_get' (m : Nat → Nat → Fin p) {t : Nat} (h : t < 64) : (mt m)[t]? = some (vi (fv (m (t / 8) (t % 8)))) := by simp [mt, h]
theorem mt_congr {m m' : Nat → Nat → Fin p} (h : ∀ i j, i < 8 → j < 8 → m i j = m' i j) : mt m = mt m' := by
  unfold mt
  congr 1
  exact List.map_congr_left fun t ht => by
    have := List.mem_range.1 ht
    rw [h (t / 8) (t % 8) (by omega) (by omega)]
def updM (m : Nat → Nat → Fin p) (i j : Nat) (x : Fin p) (a b : Nat) : Fin p := if a = i ∧ b = j then x else m a b
theorem mt_set (m : Nat → Nat → Fin p) {i j : Nat} (x : Fin p) (hi : i < 8) (hj : j < 8) : (mt m).setIfInBounds (i * 8 + j) (vi (fv x)) = mt (updM m i j x) := by
  apply Array.ext_getElem?
  intro t
  rw [Array.getElem?_setIfInBounds]
  by_cases ht : t < 64
  · rw [mt_get' _ ht, mt_size]
    unfold updM
    by_cases e : i * 8 + j = t
    · rw [if_pos e, if_pos (show i * 8 + j < 64 by omega), mt_get' _ ht, if_pos (show t / 8 = i ∧ t % 8 = j from ⟨by omega, by omega⟩)]
    · rw [if_neg e, mt_get' _ ht, if_neg (by omega)]
  · have h1 : (mt (updM m i j x))[t]? = none := Array.getElem?_eq_none (by rw [mt_size]; omega)
    have h2 : (mt m)[t]? = none := Array.getElem?_eq_none (by rw [mt_size]; omega)
    rw [h1, h2, if_neg (by omega)]
theorem mt_one (m : Nat → Nat → Fin p) : (mt m).all (·.oneCell') = true := by
  rw [Array.all_eq_true_iff_forall_mem]
  intro v hv
  simp only [mt, List.mem_toArray, List.mem_map] at hv
  obtain ⟨i, _, rfl⟩ := hv
  rfl
theorem info64 (m : Nat → Nat → Fin p) : (Tryz.prog.info? 67).map (·.size) = some (mt m).size := by rw [mt_size]; kernel_rfl
def MBlk (w : World) (g : Nat) (m : Nat → Nat → Fin p) : Prop := Blk w g 67 (mt m)
variable {w w' : World} {g : Nat} {m : Nat → Nat → Fin p}
theorem MBlk.at_ (h : MBlk w g m) {i j : Nat} (hi : i < 8) (hj : j < 8) : w.cell? ⟨g, i * 8 + j, none⟩ = some (vi (fv (m i j))) := by rw [Blk.cell h, mt_get _ hi hj]
theorem MBlk.frozen (h : MBlk w g m) (o : Nat) : w.frozen? ⟨g, o, none⟩ = false := Blk.frozen h o
theorem MBlk.set (h : MBlk w g m) {i j : Nat} (hi : i < 8) (hj : j < 8) (x : Fin p) : MBlk (w.setCell ⟨g, i * 8 + j, none⟩ (vi (fv x))) g (updM m i j x) := by
  have := Blk.set_ h (i * 8 + j) (vi (fv x))
  rwa [mt_set _ _ hi hj] at this
theorem MBlk.congr {m' : Nat → Nat → Fin p} (h : MBlk w g m) (e : ∀ i j, i < 8 → j < 8 → m i j = m' i j) : MBlk w g m' := by
  unfold MBlk at *
  rwa [← mt_congr e]
theorem MBlk.below (h : MBlk w g m) {B : Nat} (hb : Below B w w') (hg : g < B) : MBlk w' g m := Blk.below h hb hg
theorem MBlk.drewN (h : MBlk w g m) (n : Nat) : MBlk (w.drewN n) g m := h
theorem MBlk.far (h : MBlk w g m) {q : Addr} (hq : g ≠ q.block) (u : Value) : MBlk (w.setCell q u) g m := Blk.far h hq u
theorem MBlk.matAt (h : MBlk w g m) : MatAt w g 0 m := fun i j hi hj => by rw [Nat.zero_add]; exact h.at_ hi hj
end
def rowM {p : Nat} (m : Nat → Nat → Fin p) (i : Nat) (x : Nat → Fin p) (a b : Nat) : Fin p := if a = i then x b else m a b
theorem MBlk.setRow {p : Nat} {w : World} {g : Nat} {m : Nat → Nat → Fin p} (h : MBlk w g m) {i : Nat} (hi : i < 8) (x : Nat → Fin p) :
    MBlk (w.setCells g (i * 8) [vi (fv (x 0)), vi (fv (x 1)), vi (fv (x 2)), vi (fv (x 3)), vi (fv (x 4)), vi (fv (x 5)), vi (fv (x 6)), vi (fv (x 7))]) g (rowM m i x) := by
  have h8 := (((((((h.set hi (show 0 < 8 by omega) (x 0)).set hi (show 1 < 8 by omega) (x 1)).set hi (show 2 < 8 by omega) (x 2)).set hi (show 3 < 8 by omega) (x 3)).set hi (show 4 < 8 by omega) (x 4)).set hi (show 5 < 8 by omega) (x 5)).set hi (show 6 < 8 by omega) (x 6)).set hi (show 7 < 8 by omega) (x 7)
  refine MBlk.congr h8 fun a b ha hb => ?_
  unfold rowM updM
  by_cases e : a = i
  · rw [if_pos e]
    match b, hb with
    | 0, _ => simp [e]
    | 1, _ => simp [e]
    | 2, _ => simp [e]
    | 3, _ => simp [e]
    | 4, _ => simp [e]
    | 5, _ => simp [e]
    | 6, _ => simp [e]
    | 7, _ => simp [e]
    | n + 8, h => omega
  · rw [if_neg e]
    simp [e]
theorem MBlk.there {p : Nat} {w : World} {g : Nat} {m : Nat → Nat → Fin p} (h : MBlk w g m) {i : Nat} (hi : i < 8) : w.there g (i * 8) 8 := fun j hj => ⟨by rw [h.at_ hi hj]; rfl, h.frozen _⟩
theorem below_setCells {B : Nat} {w0 : World} (b : Nat) (hb : B ≤ b) : ∀ (vs : List Value) (o : Nat) (w : World), Below B w0 w → Below B w0 (w.setCells b o vs)
  | [], _, _, h => h
  | v :: r, o, w, h => by
    rw [World.setCells]
    exact below_setCells b hb r (o + 1) _ (h.setCell (p := ⟨b, o, none⟩) hb v)
theorem MBlk.farCells {p : Nat} {g b : Nat} {m : Nat → Nat → Fin p} (hne : g ≠ b) : ∀ (vs : List Value) (o : Nat) (w : World), MBlk w g m → MBlk (w.setCells b o vs) g m
  | [], _, _, h => h
  | v :: r, o, w, h => by
    rw [World.setCells]
    exact MBlk.farCells hne r (o + 1) _ (h.far (q := ⟨b, o, none⟩) hne v)
theorem rowM_swap {p : Nat} (m : Nat → Nat → Fin p) (i k a b : Nat) : rowM (rowM m i (m k)) k (m i) a b = swapR m i k a b := by
  unfold rowM swapR
  by_cases h1 : a = i
  · by_cases h2 : a = k
    · rw [if_pos h2, if_pos h1, ← h1, ← h2]
    · rw [if_neg h2, if_pos h1, if_pos h1]
  · by_cases h2 : a = k
    · rw [if_pos h2, if_neg h1, if_pos h2]
    · rw [if_neg h2, if_neg h1, if_neg h1, if_neg h2]
theorem swap_run {p : Nat} (w : World) (g : Nat) (m : Nat → Nat → Fin p) (h : MBlk w g m) {i k : Nat} (hi : i < 8) (hk : k < 8) : ∃ W1 W2 : World,
    W1 = w.drew.setCells g (i * 8) (st fun j => fv (m k j)).toList ∧ W2 = W1.setCells g (k * 8) (st fun j => fv (m i j)).toList ∧
    w.drew.rangeAt g (k * 8) (st fun j => fv (m k j)).toList ∧ w.drew.rangeAt g (i * 8) (st fun j => fv (m i j)).toList ∧
    w.drew.there g (i * 8) (st fun j => fv (m k j)).size ∧ W1.there g (k * 8) (st fun j => fv (m i j)).size ∧
    MBlk W2 g (swapR m i k) ∧ (∀ B W, B ≤ g → Below B W w → Below B W W2) ∧ ∀ g' m', g' ≠ g → MBlk w g' m' → MBlk W2 g' (p := p) m' := by
  have hw : MBlk w.drew g m := h.drewN 1
  have L : ∀ a, a < 8 → w.drew.rangeAt g (a * 8) (st fun j => fv (m a j)).toList := fun a ha => by
    have hr := MatAt.row hw.matAt ha
    rwa [Nat.zero_add] at hr
  have H1 : MBlk (w.drew.setCells g (i * 8) (st fun j => fv (m k j)).toList) g (rowM m i (m k)) := hw.setRow hi (m k)
  have H2 := H1.setRow hk (m i)
  exact ⟨_, _, rfl, rfl, L k hk, L i hi, by rw [st_size]; exact hw.there hi, by rw [st_size]; exact H1.there hk, H2.congr fun a b _ _ => rowM_swap m i k a b, fun B W hB hb => below_setCells g hB _ _ _ (below_setCells g hB _ _ _ (below_drewN hb 1)),
    fun g' m' hne h' => MBlk.farCells hne _ _ _ (MBlk.farCells hne _ _ _ (h'.drewN 1))⟩
theorem wp_fixed {P : Program} {c : Code} {Q : Exit → Act → World → Prop} {a : Act} {w : World} (A : Act) (W : World) (h : c.wp P (fun e a' w' => e = .normal ∧ w' = W ∧ a' = A) a w) (k : Q .normal A W) : c.wp P Q a w :=
  Code.wp_mono (fun e a' w' h => by obtain ⟨rfl, rfl, rfl⟩ := h; exact k) h
def onlyN (A : Act) (R : World → Prop) : Exit → Act → World → Prop
  | .normal, a, w => R w ∧ a = A
  | _, _, _ => False
theorem wp_fixedR {P : Program} {c : Code} {Q : Exit → Act → World → Prop} {a : Act} {w : World} (A : Act) (R : World → Prop) (h : c.wp P (onlyN A R) a w) (k : ∀ W, R W → Q .normal A W) : c.wp P Q a w :=
  Code.wp_mono (fun e a' w' h => by
    cases e with
    | normal => obtain ⟨hR, rfl⟩ := h; exact k _ hR
    | _ => exact h.elim) h
theorem wpAny_take_at {ops : Array Oper} {Q : Exit → Act → World → Prop} {md : Region.Mode} {i d : Nat} {oi : Oper} {v : Value} {fuel : Nat} {listed : Array Bool} {a : Act} {w : World} (hi : ops[i]? = some oi) (hd : oi.dst = some d)
    (hs : Region.noSelect ops = true) (hf : Region.free md ops listed i = true) (hr : (Region.ready md ops listed).contains i = true)
    (hQ : ∀ c a w, Q (.panic c) (a.put (some d) v) w → Q (.panic c) a w) (hy : Yields Tryz.prog ops oi v a)
    (h : wpAny Tryz.prog md ops Q fuel (listed.setIfInBounds i true) (a.put (some d) v) w) : wpAny Tryz.prog md ops Q (fuel + 1) listed a w := by
  rw [← hd] at h hQ
  exact wpAny_take hi hs hf hr hQ hy h
theorem step_load8 {ops : Array Oper} {o : Oper} {a : Act} {w : World} {K : Act → World → Prop} {Q : Exit → Act → World → Prop} {E : Prop} {d : Nat} {x : Operand} (hg : o.guard = none) (hd : o.dst = some d) (ho : o.op = .load 66 x)
    {b t : Nat} {c : Nat → Int} (hx : a.eval x = .pointer (some ⟨b, t, none⟩)) (hc : w.rangeAt b t (st c).toList) (h : K (a.put (some d) (.agg (st c))) w) :
    if Region.wanted o (yielded ops a.tmps) = true then Oper.wp Tryz.prog o a w K Q else E := by
  rw [if_pos (by simp [Region.wanted, hg])]
  refine wp_load_mid 66 x ho b t hx _ _ hc Tryz.underlying66 rfl (by rw [Array.length_toList]; exact info8 _) ?_
  rw [Array.toArray_toList, hd]
  exact h
theorem step_store8 {ops : Array Oper} {o : Oper} {a : Act} {w : World} {K : Act → World → Prop} {Q : Exit → Act → World → Prop} {E : Prop} {x v : Operand} (hg : o.guard = none) (hd : o.dst = none) (ho : o.op = .store 66 x v)
    {b t : Nat} {c : Nat → Int} (hx : a.eval x = .pointer (some ⟨b, t, none⟩)) (hv : a.eval v = .agg (st c)) (hc : w.there b t (st c).size) (h : K a (w.setCells b t (st c).toList)) :
    if Region.wanted o (yielded ops a.tmps) = true then Oper.wp Tryz.prog o a w K Q else E := by
  rw [if_pos (by simp [Region.wanted, hg])]
  refine wp_store_mid 66 x v ho b t (st c) hx hv hc (info8 _) (st_one _) ?_
  rw [hd]
  exact h
def pscl {p : Nat} (m : Nat → Nat → Fin p) (i : Nat) (c : Fin p) (j a b : Nat) : Fin p := if a = i ∧ b < j then m a b * c else m a b
theorem pscl_zero {p : Nat} (m : Nat → Nat → Fin p) (i : Nat) (c : Fin p) (a b : Nat) : m a b = pscl m i c 0 a b := by unfold pscl; rw [if_neg (by omega)]
theorem pscl_at {p : Nat} (m : Nat → Nat → Fin p) (i : Nat) (c : Fin p) (j : Nat) : pscl m i c j i j = m i j := by unfold pscl; rw [if_neg (by omega)]
theorem pscl_step {p : Nat} (m : Nat → Nat → Fin p) (i : Nat) (c : Fin p) (j a b : Nat) : updM (pscl m i c j) i j (m i j * c) a b = pscl m i c (j + 1) a b := by
  unfold updM pscl
  by_cases h : a = i ∧ b = j
  · rw [if_pos h, if_pos ⟨h.1, by omega⟩, h.1, h.2]
  · rw [if_neg h]
    by_cases h1 : a = i ∧ b < j
    · rw [if_pos h1, if_pos ⟨h1.1, by omega⟩]
    · rw [if_neg h1, if_neg (by omega)]
theorem pscl_done {p : Nat} (m : Nat → Nat → Fin p) (i : Nat) (c : Fin p) (a b : Nat) (hb : b < 8) : pscl m i c 8 a b = sclR m i c a b := by
  unfold pscl sclR
  by_cases h : a = i
  · rw [if_pos ⟨h, hb⟩, if_pos h]
  · rw [if_neg (by omega), if_neg h]
def pelm {p : Nat} [NeZero p] (m : Nat → Nat → Fin p) (v : Nat → Fin p) (i r j a b : Nat) : Fin p := if (a < r ∧ a ≠ i) ∨ (a = r ∧ r ≠ i ∧ b < j) then m a b - v a * m i b else m a b
section
variable {p : Nat} [NeZero p] (m : Nat → Nat → Fin p) (v : Nat → Fin p) (i r j a b : Nat)
theorem pelm_zero : m a b = pelm m v i 0 0 a b := by unfold pelm; rw [if_neg (by omega)]
theorem pelm_row (h : r ≠ i) : pelm m v i r j r j = m r j := by unfold pelm; rw [if_neg (by omega)]
theorem pelm_i : pelm m v i r j i b = m i b := by unfold pelm; rw [if_neg (by omega)]
theorem pelm_head : pelm m v i r 0 r b = m r b := by unfold pelm; rw [if_neg (by omega)]
theorem pelm_step (h : r ≠ i) : updM (pelm m v i r j) r j (m r j - v r * m i j) a b = pelm m v i r (j + 1) a b := by
  unfold updM pelm
  by_cases h0 : a = r ∧ b = j
  · rw [if_pos h0, if_pos (.inr ⟨h0.1, h, by omega⟩), h0.1, h0.2]
  · rw [if_neg h0]
    by_cases h1 : (a < r ∧ a ≠ i) ∨ (a = r ∧ r ≠ i ∧ b < j)
    · rw [if_pos h1, if_pos (by omega)]
    · rw [if_neg h1, if_neg (by omega)]
theorem pelm_next (h : r ≠ i) (hb : b < 8) : pelm m v i r 8 a b = pelm m v i (r + 1) 0 a b := by
  unfold pelm
  by_cases h1 : (a < r ∧ a ≠ i) ∨ (a = r ∧ r ≠ i ∧ b < 8)
  · rw [if_pos h1, if_pos (by omega)]
  · rw [if_neg h1, if_neg (by omega)]
theorem pelm_skip : pelm m v r r 0 a b = pelm m v r (r + 1) 0 a b := by
  unfold pelm
  by_cases h1 : (a < r ∧ a ≠ r) ∨ (a = r ∧ r ≠ r ∧ b < 0)
  · rw [if_pos h1, if_pos (by omega)]
  · rw [if_neg h1, if_neg (by omega)]
theorem pelm_done (ha : a < 8) : pelm m v i 8 0 a b = subR m v i a b := by
  unfold pelm subR
  by_cases h : a = i
  · rw [if_neg (by omega), if_pos h]
  · rw [if_pos (.inl ⟨ha, h⟩), if_neg h]
end
def diagM {p : Nat} [NeZero p] (i a b : Nat) : Fin p := if a = b ∧ a < i then 1 else 0
def Mats {p : Nat} [NeZero p] (w : World) (m out : Nat → Nat → Fin p) (wr : World) : Prop :=
  MBlk wr w.heap.size m ∧ MBlk wr (w.heap.size + 1) (fun _ _ => (0 : Fin p)) ∧ MBlk wr (w.heap.size + 1 + 1) out ∧ Below w.heap.size w wr
set_option maxRecDepth 100000 in
set_option maxHeartbeats 8000000 in
theorem undone_any (p S b : Nat) [NeZero p] (M : Nat → Nat → Fin p) (hM : Inj M) (w : World) (F : Fld w S b p) :
    Calls Tryz.prog 59 #[.pointer (some ⟨b, 0, none⟩), .agg (mt M)] w fun e w' => (∃ m out : Nat → Nat → Fin p, Undo M m out 8 ∧ e = .returned (.agg (mt out))) ∧ Below w.heap.size w w' := by
  have hp := F.prime
  have hp1 := F.two
  have hp2 := F.max
  have hcb := F.c0
  have hbl := block_lt_of_cell hcb
  have HP := Lib.hid hp
  have HM := Lib.hid hM
  have hb1 : Below w.heap.size w (w.alloc (.cells (mt M) 67)) := (Below.refl _ _).alloc (Nat.le_refl _) _
  have hb2 := hb1.alloc hb1.size (.cells (mt fun _ _ => (0 : Fin p)) 67)
  have hb3 := hb2.alloc hb2.size (.cells (mt fun _ _ => (0 : Fin p)) 67)
  have hB0 := ((Blk.new w 67 (mt M)).alloc (.cells (mt fun _ _ => (0 : Fin p)) 67)).alloc (.cells (mt fun _ _ => (0 : Fin p)) 67)
  have hB1 := (Blk.new (w.alloc (.cells (mt M) 67)) 67 (mt fun _ _ => (0 : Fin p))).alloc (.cells (mt fun _ _ => (0 : Fin p)) 67)
  have hB2 := Blk.new ((w.alloc (.cells (mt M) 67)).alloc (.cells (mt fun _ _ => (0 : Fin p)) 67)) 67 (mt fun _ _ => (0 : Fin p))
  rw [World.size_alloc] at hB1 hB2
  rw [World.size_alloc] at hB2
  have hB2' : mt (fun _ _ => (0 : Fin p)) = mt (diagM 0) := mt_congr fun i j _ _ => by unfold diagM; rw [if_neg (by omega)]
  have hM0 : Mats w M (diagM 0) (((w.alloc (.cells (mt M) 67)).alloc (.cells (mt fun _ _ => (0 : Fin p)) 67)).alloc (.cells (mt fun _ _ => (0 : Fin p)) 67)) := ⟨hB0, hB1, by unfold MBlk; rw [← hB2']; exact hB2, hb3⟩
  have HM0 := Lib.hid hM0
  clear hp hM hB0 hB1 hB2 hB2' hb1 hb2 hb3 hM0
  go_enter Tryz.func59, Tryz.ntmps59
  go_wp2
  go_loopw [14] (fun t wr => ∃ i : Nat, i ≤ 8 ∧ t = vi i ∧ Mats w M (diagM i) wr) (fun t _ => 8 - (intOf t).toNat)
  case atStart => exact ⟨0, by omega, rfl, HM0.out⟩
  case round =>
    obtain ⟨i, hi, rfl, h0, h1, h2, hb⟩ := hrel
    by_cases hi8 : i < 8
    · have hc := h2.at_ hi8 hi8
      have hf := h2.frozen (i * 8 + i)
      have hst := h2.set hi8 hi8 1
      rw [fv_one hp1] at hst
      have hst2 : MBlk (wr.setCell ⟨w.heap.size + 1 + 1, i * 8 + i, none⟩ (vi 1)) (w.heap.size + 1 + 1) (diagM (p := p) (i + 1)) := hst.congr fun a b _ _ => by
        unfold updM diagM
        by_cases e : a = i ∧ b = i
        · rw [if_pos e, if_pos ⟨by omega, by omega⟩]
        · rw [if_neg e]
          by_cases e2 : a = b ∧ a < i
          · rw [if_pos e2, if_pos ⟨e2.1, by omega⟩]
          · rw [if_neg e2, if_neg (by omega)]
      have q0 := h0.far (q := ⟨w.heap.size + 1 + 1, i * 8 + i, none⟩) (by show w.heap.size ≠ w.heap.size + 1 + 1; omega) (vi 1)
      have q1 := h1.far (q := ⟨w.heap.size + 1 + 1, i * 8 + i, none⟩) (by show w.heap.size + 1 ≠ w.heap.size + 1 + 1; omega) (vi 1)
      have qb := hb.setCell (p := ⟨w.heap.size + 1 + 1, i * 8 + i, none⟩) (by show w.heap.size ≤ w.heap.size + 1 + 1; omega) (vi 1)
      have HQ := Lib.hid (show Mats w M (diagM (i + 1)) (wr.setCell ⟨w.heap.size + 1 + 1, i * 8 + i, none⟩ (vi 1)) from ⟨q0, q1, hst2, qb⟩)
      have i1 : (0 : Int) ≤ (i : Int) := by omega
      have i2 : (i : Int) < 8 := by omega
      clear hst hst2 q0 q1 qb
      go_wp2
      go_roundw
      case rel => exact ⟨i + 1, by omega, by go_num, HQ.out⟩
      case measure => simp [intOf]; omega
    · have ei : i = 8 := by omega
      have h3 : MBlk wr (w.heap.size + 1 + 1) (unitM (p := p)) := h2.congr fun a b ha _ => by
        unfold diagM unitM
        by_cases e : a = b
        · rw [if_pos ⟨e, by omega⟩, if_pos e]
        · rw [if_neg (by omega), if_neg e]
      have HQ := Lib.hid (show Mats w M unitM wr from ⟨h0, h1, h3, hb⟩)
      have t1 : ¬ (i : Int) < 8 := by omega
      clear h0 h1 h2 h3 hb ei
      go_wp2
      go_loopw [22] (fun t wr => ∃ (i : Nat) (m out : Nat → Nat → Fin p), i ≤ 8 ∧ t = vi i ∧ Undo M m out i ∧ Mats w m out wr) (fun t _ => 8 - (intOf t).toNat)
      case atStart => exact ⟨0, M, unitM, by omega, rfl, Undo.start M, HQ.out⟩
      case round =>
        clear HQ HM0 t1 hi8 hi
        obtain ⟨i, m, out, hi, rfl, hu, h0, h1, h2, hb⟩ := hrel
        have HU := Lib.hid hu
        clear hu
        by_cases hi8 : i < 8
        · have hpv := HU.out.pivot HP.out HM.out hi8
          have HPV := Lib.hid hpv
          have i1 : (0 : Int) ≤ (i : Int) := by omega
          have i2 : (i : Int) < 8 := by omega
          clear hpv
          go_wp2
          go_loop [8] (fun t => ∃ k : Nat, i ≤ k ∧ k < 8 ∧ t = vi k ∧ ∃ k0, k ≤ k0 ∧ k0 < 8 ∧ m k0 i ≠ 0) (fun t => 8 - (intOf t).toNat)
          case atStart => exact ⟨i, Nat.le_refl _, hi8, rfl, HPV.out⟩
          case round =>
            obtain ⟨k, hk1, hk2, rfl, hk0⟩ := hrel
            have hck := h0.at_ hk2 hi8
            have k1 : (0 : Int) ≤ (k : Int) := by omega
            have k2 : (k : Int) < 8 := by omega
            by_cases hz : m k i = 0
            · have tz : (fv (m k i) == 0) = true := by rw [hz]; rfl
              have hk3 : k + 1 < 8 ∧ ∃ k0, k + 1 ≤ k0 ∧ k0 < 8 ∧ m k0 i ≠ 0 := by
                obtain ⟨k0, e1, e2, e3⟩ := hk0
                have : k0 ≠ k := fun e => e3 (e ▸ hz)
                exact ⟨by omega, k0, by omega, e2, e3⟩
              have HK3 := Lib.hid hk3
              have hk38 := hk3.1
              clear hz hk0 hk3
              go_wp2
              go_round
              case rel => exact ⟨k + 1, by omega, by omega, by go_num, HK3.out.2⟩
              case measure => simp [intOf]; omega
            · have tz : (fv (m k i) == 0) = false := by rw [beq_eq_false_iff_ne]; exact fun e => hz (fv_eq_zero.1 e)
              have HZ := Lib.hid hz
              clear hz hk0
              have r1 := swap_run wr w.heap.size m h0 hi8 hk2
              have r2 := fun W (h : MBlk W (w.heap.size + 1 + 1) out) => swap_run W (w.heap.size + 1 + 1) out h hi8 hk2
              obtain ⟨W1, W2, e1, e2, l1, l2, s1, s2, B1, E1, G1⟩ := r1
              have hh1 := G1 (w.heap.size + 1) (fun _ _ => (0 : Fin p)) (by omega) h1
              have hh2 := G1 (w.heap.size + 1 + 1) out (by omega) h2
              have hbb := E1 w.heap.size w (by omega) hb
              obtain ⟨W3, W4, e3, e4, l3, l4, s3, s4, B2, E2, G2⟩ := r2 W2 hh2
              have hmx : Tryz.prog.follows .mixedOrders = true := by kernel_rfl
              clear r2
              go_wp2
              refine' wp_fixed _ W2 ?reg ?next
              case reg =>
                refine wp_region_any hmx ?_
                change wpAny _ _ _ _ _ _ _ (World.drew _)
                refine' wpAny_take_at (i := 0) (v := _) rfl rfl (by kernel_rfl) (by kernel_rfl) (by kernel_rfl) (fun _ _ _ h => nomatch h.1) (Or.inl ⟨by rfl, ?_⟩) ?_
                rotate_left
                · (intro w; go_simp; try with_reducible rfl)
                simp only [Act.put, List.setIfInBounds_toArray, List.set_cons_zero, List.set_cons_succ]
                refine' wpAny_take_at (i := 1) (v := _) rfl rfl (by kernel_rfl) (by kernel_rfl) (by kernel_rfl) (fun _ _ _ h => nomatch h.1) (Or.inl ⟨by rfl, ?_⟩) ?_
                rotate_left
                · (intro w; go_simp; try with_reducible rfl)
                simp only [Act.put, List.setIfInBounds_toArray, List.set_cons_zero, List.set_cons_succ]
                refine' wpAny_take_at (i := 2) (v := _) rfl rfl (by kernel_rfl) (by kernel_rfl) (by kernel_rfl) (fun _ _ _ h => nomatch h.1) (Or.inl ⟨by rfl, ?_⟩) ?_
                rotate_left
                · (intro w; go_simp; try with_reducible rfl)
                simp only [Act.put, List.setIfInBounds_toArray, List.set_cons_zero, List.set_cons_succ]
                refine' wpAny_take_at (i := 3) (v := _) rfl rfl (by kernel_rfl) (by kernel_rfl) (by kernel_rfl) (fun _ _ _ h => nomatch h.1) (Or.inl ⟨by rfl, ?_⟩) ?_
                rotate_left
                · (intro w; go_simp; try with_reducible rfl)
                simp only [Act.put, List.setIfInBounds_toArray, List.set_cons_zero, List.set_cons_succ]
                refine' wpAny_take_at (i := 5) (v := _) rfl rfl (by kernel_rfl) (by kernel_rfl) (by kernel_rfl) (fun _ _ _ h => nomatch h.1) (Or.inl ⟨by rfl, ?_⟩) ?_
                rotate_left
                · (intro w; go_simp; try with_reducible rfl)
                simp only [Act.put, List.setIfInBounds_toArray, List.set_cons_zero, List.set_cons_succ]
                refine' wpAny_take_at (i := 6) (v := _) rfl rfl (by kernel_rfl) (by kernel_rfl) (by kernel_rfl) (fun _ _ _ h => nomatch h.1) (Or.inl ⟨by rfl, ?_⟩) ?_
                rotate_left
                · (intro w; go_simp; try with_reducible rfl)
                simp only [Act.put, List.setIfInBounds_toArray, List.set_cons_zero, List.set_cons_succ]
                refine wpAny_ready (rs := [4, 7]) (by kernel_rfl) (by simp) ?_
                refine AllReady.cons rfl (fun K hK => ?_) (AllReady.cons rfl (fun K hK => ?_) AllReady.nil)
                · skip
                  refine step_load8 rfl rfl rfl rfl l1 ?_
                  refine hK _ _ ?_
                  clear hK K
                  simp only [Act.put, List.setIfInBounds_toArray, List.set_cons_zero, List.set_cons_succ]
                  refine wpAny_ready (rs := [7]) (by kernel_rfl) (by simp) ?_
                  refine AllReady.cons rfl (fun K hK => ?_) AllReady.nil
                  refine step_load8 rfl rfl rfl rfl l2 ?_
                  refine hK _ _ ?_
                  clear hK K
                  simp only [Act.put, List.setIfInBounds_toArray, List.set_cons_zero, List.set_cons_succ]
                  refine' wpAny_take_at (i := 8) (v := _) rfl rfl (by kernel_rfl) (by kernel_rfl) (by kernel_rfl) (fun _ _ _ h => nomatch h.1) (Or.inl ⟨by rfl, ?_⟩) ?_
                  rotate_left
                  · (intro w; go_simp; try with_reducible rfl)
                  simp only [Act.put, List.setIfInBounds_toArray, List.set_cons_zero, List.set_cons_succ]
                  refine wpAny_ready (rs := [9]) (by kernel_rfl) (by simp) ?_
                  refine AllReady.cons rfl (fun K hK => ?_) AllReady.nil
                  refine step_store8 rfl rfl rfl rfl rfl s1 ?_
                  refine hK _ _ ?_
                  clear hK K
                  rw [← e1]
                  refine' wpAny_take_at (i := 10) (v := _) rfl rfl (by kernel_rfl) (by kernel_rfl) (by kernel_rfl) (fun _ _ _ h => nomatch h.1) (Or.inl ⟨by rfl, ?_⟩) ?_
                  rotate_left
                  · (intro w; go_simp; try with_reducible rfl)
                  simp only [Act.put, List.setIfInBounds_toArray, List.set_cons_zero, List.set_cons_succ]
                  refine wpAny_ready (rs := [11]) (by kernel_rfl) (by simp) ?_
                  refine AllReady.cons rfl (fun K hK => ?_) AllReady.nil
                  refine step_store8 rfl rfl rfl rfl rfl s2 ?_
                  refine hK _ _ ?_
                  clear hK K
                  rw [← e2]
                  refine wpAny_done (by kernel_rfl) ?_ _
                  refine ⟨rfl, rfl, ?_⟩
                  exact Eq.refl _
                · skip
                  refine step_load8 rfl rfl rfl rfl l2 ?_
                  refine hK _ _ ?_
                  clear hK K
                  simp only [Act.put, List.setIfInBounds_toArray, List.set_cons_zero, List.set_cons_succ]
                  refine wpAny_ready (rs := [4]) (by kernel_rfl) (by simp) ?_
                  refine AllReady.cons rfl (fun K hK => ?_) AllReady.nil
                  refine step_load8 rfl rfl rfl rfl l1 ?_
                  refine hK _ _ ?_
                  clear hK K
                  simp only [Act.put, List.setIfInBounds_toArray, List.set_cons_zero, List.set_cons_succ]
                  refine' wpAny_take_at (i := 8) (v := _) rfl rfl (by kernel_rfl) (by kernel_rfl) (by kernel_rfl) (fun _ _ _ h => nomatch h.1) (Or.inl ⟨by rfl, ?_⟩) ?_
                  rotate_left
                  · (intro w; go_simp; try with_reducible rfl)
                  simp only [Act.put, List.setIfInBounds_toArray, List.set_cons_zero, List.set_cons_succ]
                  refine wpAny_ready (rs := [9]) (by kernel_rfl) (by simp) ?_
                  refine AllReady.cons rfl (fun K hK => ?_) AllReady.nil
                  refine step_store8 rfl rfl rfl rfl rfl s1 ?_
                  refine hK _ _ ?_
                  clear hK K
                  rw [← e1]
                  refine' wpAny_take_at (i := 10) (v := _) rfl rfl (by kernel_rfl) (by kernel_rfl) (by kernel_rfl) (fun _ _ _ h => nomatch h.1) (Or.inl ⟨by rfl, ?_⟩) ?_
                  rotate_left
                  · (intro w; go_simp; try with_reducible rfl)
                  simp only [Act.put, List.setIfInBounds_toArray, List.set_cons_zero, List.set_cons_succ]
                  refine wpAny_ready (rs := [11]) (by kernel_rfl) (by simp) ?_
                  refine AllReady.cons rfl (fun K hK => ?_) AllReady.nil
                  refine step_store8 rfl rfl rfl rfl rfl s2 ?_
                  refine hK _ _ ?_
                  clear hK K
                  rw [← e2]
                  refine wpAny_done (by kernel_rfl) ?_ _
                  refine ⟨rfl, rfl, ?_⟩
                  exact Eq.refl _
              case next =>
                have HB := Lib.hid (⟨B1, hh1, hbb⟩ : MBlk W2 w.heap.size (swapR m i k) ∧ MBlk W2 (w.heap.size + 1) (fun _ _ => (0 : Fin p)) ∧ Below w.heap.size w W2)
                have HS := Lib.hid (⟨e3, e4, l3, l4, s3, s4, B2, E2, G2⟩ : _ ∧ _ ∧ _ ∧ _ ∧ _ ∧ _ ∧ _ ∧ _ ∧ _)
                clear e1 e2 l1 l2 s1 s2 B1 E1 G1 hh1 hh2 hbb e3 e4 l3 l4 s3 s4 B2 E2 G2 h0 h1 h2 hb hck
                go_wp2
                obtain ⟨e3, e4, l3, l4, s3, s4, B2, E2, G2⟩ := HS.out
                refine' wp_fixed _ W4 ?reg ?next
                case reg =>
                  refine wp_region_any hmx ?_
                  change wpAny _ _ _ _ _ _ _ (World.drew _)
                  refine' wpAny_take_at (i := 0) (v := _) rfl rfl (by kernel_rfl) (by kernel_rfl) (by kernel_rfl) (fun _ _ _ h => nomatch h.1) (Or.inl ⟨by rfl, ?_⟩) ?_
                  rotate_left
                  · (intro w; go_simp; try with_reducible rfl)
                  simp only [Act.put, List.setIfInBounds_toArray, List.set_cons_zero, List.set_cons_succ]
                  refine' wpAny_take_at (i := 1) (v := _) rfl rfl (by kernel_rfl) (by kernel_rfl) (by kernel_rfl) (fun _ _ _ h => nomatch h.1) (Or.inl ⟨by rfl, ?_⟩) ?_
                  rotate_left
                  · (intro w; go_simp; try with_reducible rfl)
                  simp only [Act.put, List.setIfInBounds_toArray, List.set_cons_zero, List.set_cons_succ]
                  refine' wpAny_take_at (i := 2) (v := _) rfl rfl (by kernel_rfl) (by kernel_rfl) (by kernel_rfl) (fun _ _ _ h => nomatch h.1) (Or.inl ⟨by rfl, ?_⟩) ?_
                  rotate_left
                  · (intro w; go_simp; try with_reducible rfl)
                  simp only [Act.put, List.setIfInBounds_toArray, List.set_cons_zero, List.set_cons_succ]
                  refine' wpAny_take_at (i := 3) (v := _) rfl rfl (by kernel_rfl) (by kernel_rfl) (by kernel_rfl) (fun _ _ _ h => nomatch h.1) (Or.inl ⟨by rfl, ?_⟩) ?_
                  rotate_left
                  · (intro w; go_simp; try with_reducible rfl)
                  simp only [Act.put, List.setIfInBounds_toArray, List.set_cons_zero, List.set_cons_succ]
                  refine' wpAny_take_at (i := 5) (v := _) rfl rfl (by kernel_rfl) (by kernel_rfl) (by kernel_rfl) (fun _ _ _ h => nomatch h.1) (Or.inl ⟨by rfl, ?_⟩) ?_
                  rotate_left
                  · (intro w; go_simp; try with_reducible rfl)
                  simp only [Act.put, List.setIfInBounds_toArray, List.set_cons_zero, List.set_cons_succ]
                  refine' wpAny_take_at (i := 6) (v := _) rfl rfl (by kernel_rfl) (by kernel_rfl) (by kernel_rfl) (fun _ _ _ h => nomatch h.1) (Or.inl ⟨by rfl, ?_⟩) ?_
                  rotate_left
                  · (intro w; go_simp; try with_reducible rfl)
                  simp only [Act.put, List.setIfInBounds_toArray, List.set_cons_zero, List.set_cons_succ]
                  refine wpAny_ready (rs := [4, 7]) (by kernel_rfl) (by simp) ?_
                  refine AllReady.cons rfl (fun K hK => ?_) (AllReady.cons rfl (fun K hK => ?_) AllReady.nil)
                  · skip
                    refine step_load8 rfl rfl rfl rfl l3 ?_
                    refine hK _ _ ?_
                    clear hK K
                    simp only [Act.put, List.setIfInBounds_toArray, List.set_cons_zero, List.set_cons_succ]
                    refine wpAny_ready (rs := [7]) (by kernel_rfl) (by simp) ?_
                    refine AllReady.cons rfl (fun K hK => ?_) AllReady.nil
                    refine step_load8 rfl rfl rfl rfl l4 ?_
                    refine hK _ _ ?_
                    clear hK K
                    simp only [Act.put, List.setIfInBounds_toArray, List.set_cons_zero, List.set_cons_succ]
                    refine' wpAny_take_at (i := 8) (v := _) rfl rfl (by kernel_rfl) (by kernel_rfl) (by kernel_rfl) (fun _ _ _ h => nomatch h.1) (Or.inl ⟨by rfl, ?_⟩) ?_
                    rotate_left
                    · (intro w; go_simp; try with_reducible rfl)
                    simp only [Act.put, List.setIfInBounds_toArray, List.set_cons_zero, List.set_cons_succ]
                    refine wpAny_ready (rs := [9]) (by kernel_rfl) (by simp) ?_
                    refine AllReady.cons rfl (fun K hK => ?_) AllReady.nil
                    refine step_store8 rfl rfl rfl rfl rfl s3 ?_
                    refine hK _ _ ?_
                    clear hK K
                    rw [← e3]
                    refine' wpAny_take_at (i := 10) (v := _) rfl rfl (by kernel_rfl) (by kernel_rfl) (by kernel_rfl) (fun _ _ _ h => nomatch h.1) (Or.inl ⟨by rfl, ?_⟩) ?_
                    rotate_left
                    · (intro w; go_simp; try with_reducible rfl)
                    simp only [Act.put, List.setIfInBounds_toArray, List.set_cons_zero, List.set_cons_succ]
                    refine wpAny_ready (rs := [11]) (by kernel_rfl) (by simp) ?_
                    refine AllReady.cons rfl (fun K hK => ?_) AllReady.nil
                    refine step_store8 rfl rfl rfl rfl rfl s4 ?_
                    refine hK _ _ ?_
                    clear hK K
                    rw [← e4]
                    refine wpAny_done (by kernel_rfl) ?_ _
                    refine ⟨rfl, rfl, ?_⟩
                    exact Eq.refl _
                  · skip
                    refine step_load8 rfl rfl rfl rfl l4 ?_
                    refine hK _ _ ?_
                    clear hK K
                    simp only [Act.put, List.setIfInBounds_toArray, List.set_cons_zero, List.set_cons_succ]
                    refine wpAny_ready (rs := [4]) (by kernel_rfl) (by simp) ?_
                    refine AllReady.cons rfl (fun K hK => ?_) AllReady.nil
                    refine step_load8 rfl rfl rfl rfl l3 ?_
                    refine hK _ _ ?_
                    clear hK K
                    simp only [Act.put, List.setIfInBounds_toArray, List.set_cons_zero, List.set_cons_succ]
                    refine' wpAny_take_at (i := 8) (v := _) rfl rfl (by kernel_rfl) (by kernel_rfl) (by kernel_rfl) (fun _ _ _ h => nomatch h.1) (Or.inl ⟨by rfl, ?_⟩) ?_
                    rotate_left
                    · (intro w; go_simp; try with_reducible rfl)
                    simp only [Act.put, List.setIfInBounds_toArray, List.set_cons_zero, List.set_cons_succ]
                    refine wpAny_ready (rs := [9]) (by kernel_rfl) (by simp) ?_
                    refine AllReady.cons rfl (fun K hK => ?_) AllReady.nil
                    refine step_store8 rfl rfl rfl rfl rfl s3 ?_
                    refine hK _ _ ?_
                    clear hK K
                    rw [← e3]
                    refine' wpAny_take_at (i := 10) (v := _) rfl rfl (by kernel_rfl) (by kernel_rfl) (by kernel_rfl) (fun _ _ _ h => nomatch h.1) (Or.inl ⟨by rfl, ?_⟩) ?_
                    rotate_left
                    · (intro w; go_simp; try with_reducible rfl)
                    simp only [Act.put, List.setIfInBounds_toArray, List.set_cons_zero, List.set_cons_succ]
                    refine wpAny_ready (rs := [11]) (by kernel_rfl) (by simp) ?_
                    refine AllReady.cons rfl (fun K hK => ?_) AllReady.nil
                    refine step_store8 rfl rfl rfl rfl rfl s4 ?_
                    refine hK _ _ ?_
                    clear hK K
                    rw [← e4]
                    refine wpAny_done (by kernel_rfl) ?_ _
                    refine ⟨rfl, rfl, ?_⟩
                    exact Eq.refl _
                case next =>
                  have hmats : Mats w (swapR m i k) (swapR out i k) W4 := ⟨G2 _ _ (by omega) HB.out.1, G2 _ _ (by omega) HB.out.2.1, B2, E2 _ _ (by omega) HB.out.2.2⟩
                  clear e3 e4 l3 l4 s3 s4 B2 E2 G2 HB HS
                  have hu1 := HU.out.swap hi8 hk2 hk1
                  have hn1 : swapR m i k i i ≠ 0 := by unfold swapR; rw [if_pos rfl]; exact HZ.out
                  obtain ⟨m1, hm1⟩ : ∃ m1, m1 = swapR m i k := ⟨_, rfl⟩
                  obtain ⟨o1, ho1⟩ : ∃ o1, o1 = swapR out i k := ⟨_, rfl⟩
                  rw [← hm1, ← ho1] at hu1 hmats
                  rw [← hm1] at hn1
                  clear hm1 ho1 HU HZ HPV tz hk1 hk2 k1 k2
                  have HU := Lib.hid hu1
                  have HN := Lib.hid hn1
                  have HMA := Lib.hid hmats
                  have hc15 := hmats.1.at_ hi8 hi8
                  have hcr := (F.below hmats.2.2.2 F.le).c0
                  clear hu1 hn1 hmats
                  go_wp2_with fail
                  refine (inv_any p hp1 hp2 b (fv (m1 i i)) (i64_fv _ hp2) W4 hcr).mono ?_
                  rintro _ _ ⟨rfl, rfl⟩
                  rw [el_fv]
                  obtain ⟨c, hcc⟩ : ∃ c, c = Zp.inv (m1 i i) := ⟨_, rfl⟩
                  rw [← hcc]
                  have HC := Lib.hid hcc
                  clear hcc hc15 hcr
                  go_wp2
                  go_loopw [61] (fun t wr => ∃ j : Nat, j ≤ 8 ∧ t = vi j ∧ Mats w (pscl m1 i c j) (pscl o1 i c j) wr) (fun t _ => 8 - (intOf t).toNat)
                  case atStart => exact ⟨0, by omega, rfl, HMA.out.1.congr fun a b _ _ => pscl_zero _ _ _ _ _, HMA.out.2.1, HMA.out.2.2.1.congr fun a b _ _ => pscl_zero _ _ _ _ _, HMA.out.2.2.2⟩
                  case round =>
                    obtain ⟨j, hj, rfl, h0, h1, h2, hb⟩ := hrel
                    by_cases hj8 : j < 8
                    · have c0 := h0.at_ hi8 hj8
                      have c2 := h2.at_ hi8 hj8
                      rw [pscl_at] at c0 c2
                      have f0 := h0.frozen (i * 8 + j)
                      have f2 := h2.frozen (i * 8 + j)
                      have HW : ∀ W, Mats w (pscl m1 i c j) (pscl o1 i c j) W → Mats w (pscl m1 i c (j + 1)) (pscl o1 i c (j + 1)) ((W.setCell ⟨w.heap.size, i * 8 + j, none⟩ (vi (fv (m1 i j * c)))).setCell ⟨w.heap.size + 1 + 1, i * 8 + j, none⟩ (vi (fv (o1 i j * c)))) := fun W ⟨g0, g1, g2, gb⟩ =>
                        ⟨((g0.set hi8 hj8 (m1 i j * c)).far (q := ⟨w.heap.size + 1 + 1, i * 8 + j, none⟩) (by show w.heap.size ≠ w.heap.size + 1 + 1; omega) _).congr fun a b _ _ => pscl_step m1 i c j a b,
                         (g1.far (q := ⟨w.heap.size, i * 8 + j, none⟩) (by show w.heap.size + 1 ≠ w.heap.size; omega) _).far (q := ⟨w.heap.size + 1 + 1, i * 8 + j, none⟩) (by show w.heap.size + 1 ≠ w.heap.size + 1 + 1; omega) _,
                         ((g2.far (q := ⟨w.heap.size, i * 8 + j, none⟩) (by show w.heap.size + 1 + 1 ≠ w.heap.size; omega) _).set hi8 hj8 (o1 i j * c)).congr fun a b _ _ => pscl_step o1 i c j a b,
                         (gb.setCell (p := ⟨w.heap.size, i * 8 + j, none⟩) (Nat.le_refl _) _).setCell (p := ⟨w.heap.size + 1 + 1, i * 8 + j, none⟩) (by show w.heap.size ≤ w.heap.size + 1 + 1; omega) _⟩
                      have hcr := (F.below hb F.le).c0
                      have hHM : ∀ n, Mats w (pscl m1 i c j) (pscl o1 i c j) (wr.drewN n) := fun n => ⟨h0, h1, h2, below_drewN hb n⟩
                      have HHM := Lib.hid hHM
                      have HHW := Lib.hid HW
                      have X1 := fun (n : Fin p) W hcW => mul_any p hp2 b (fv n) (fv c) (i64_fv _ hp2) (i64_fv _ hp2) W hcW
                      simp only [el_fv] at X1
                      have HX1 := Lib.hid X1
                      have j1 : (0 : Int) ≤ (j : Int) := by omega
                      have j2 : (j : Int) < 8 := by omega
                      clear X1 HW hHM h0 h1 h2 hb
                      go_wp2
                      refine' wp_fixedR _ (fun w' => Mats w (pscl m1 i c (j + 1)) (pscl o1 i c (j + 1)) w') ?reg ?next
                      case reg =>
                        go_region_law (go_simp; go_at_call 75; refine (HX1.out _ _ (by exact hcr)).mono ?_; rintro _ _ ⟨rfl, kq, rfl⟩)
                        all_goals (refine And.intro ?_ ?_; rotate_left; exact Eq.refl _)
                        all_goals exact HHW.out _ (HHM.out _)
                      case next =>
                        intro W hW
                        have HH := Lib.hid hW
                        clear hW HHW HHM c0 c2 f0 f2 hcr
                        go_wp2
                        go_roundw
                        case rel => exact ⟨j + 1, by omega, by go_num, HH.out⟩
                        case measure => simp [intOf]; omega
                    · have ej : j = 8 := by omega
                      subst ej
                      have hmats : Mats w (sclR m1 i c) (sclR o1 i c) wr := ⟨h0.congr fun a b _ hb => pscl_done m1 i c a b hb, h1, h2.congr fun a b _ hb => pscl_done o1 i c a b hb, hb⟩
                      have hu2 := HU.out.scale HP.out hi8 (show c ≠ 0 by rw [HC.out]; exact inv_ne_zero HP.out HN.out)
                      have hn2 : sclR m1 i c i i = 1 := by unfold sclR; rw [if_pos rfl, HC.out, mul_inv HP.out HN.out]
                      obtain ⟨m2, hm2⟩ : ∃ m2, m2 = sclR m1 i c := ⟨_, rfl⟩
                      obtain ⟨o2, ho2⟩ : ∃ o2, o2 = sclR o1 i c := ⟨_, rfl⟩
                      rw [← hm2, ← ho2] at hu2 hmats
                      rw [← hm2] at hn2
                      clear hm2 ho2 HU HN HMA h0 h1 h2 hb
                      have HU := Lib.hid hu2
                      have HN := Lib.hid hn2
                      have HMA := Lib.hid hmats
                      clear hu2 hn2 hmats HC
                      go_wp2
                      go_loopw [89] (fun t wr => ∃ r : Nat, r ≤ 8 ∧ t = vi r ∧ Mats w (pelm m2 (fun a => m2 a i) i r 0) (pelm o2 (fun a => m2 a i) i r 0) wr) (fun t _ => 8 - (intOf t).toNat)
                      case atStart => exact ⟨0, by omega, rfl, HMA.out.1.congr fun a b _ _ => pelm_zero _ _ _ _ _, HMA.out.2.1, HMA.out.2.2.1.congr fun a b _ _ => pelm_zero _ _ _ _ _, HMA.out.2.2.2⟩
                      case round =>
                        obtain ⟨r, hr, rfl, h0, h1, h2, hb⟩ := hrel
                        by_cases hr8 : r < 8
                        · by_cases hri : r = i
                          · subst hri
                            have HH := Lib.hid (⟨h0.congr fun a b _ _ => pelm_skip m2 (fun a => m2 a r) r a b, h1, h2.congr fun a b _ _ => pelm_skip o2 (fun a => m2 a r) r a b, hb⟩ : Mats w (pelm m2 (fun a => m2 a r) r (r + 1) 0) (pelm o2 (fun a => m2 a r) r (r + 1) 0) wr)
                            clear h0 h1 h2 hb
                            go_wp2
                            go_roundw
                            case rel => exact ⟨r + 1, by omega, by go_num, HH.out⟩
                            case measure => simp [intOf]; omega
                          · have HNE := Lib.hid hri
                            have tri : ((r : Int) == (i : Int)) = false := by rw [beq_eq_false_iff_ne]; omega
                            have cr0 := h0.at_ hr8 hi8
                            rw [pelm_head] at cr0
                            have r1 : (0 : Int) ≤ (r : Int) := by omega
                            have r2 : (r : Int) < 8 := by omega
                            have HH := Lib.hid (⟨h0, h1, h2, hb⟩ : Mats w (pelm m2 (fun a => m2 a i) i r 0) (pelm o2 (fun a => m2 a i) i r 0) wr)
                            clear h0 h1 h2 hb hri
                            go_wp2
                            go_loopw [100] (fun t wr => ∃ j : Nat, j ≤ 8 ∧ t = vi j ∧ Mats w (pelm m2 (fun a => m2 a i) i r j) (pelm o2 (fun a => m2 a i) i r j) wr) (fun t _ => 8 - (intOf t).toNat)
                            case atStart => exact ⟨0, by omega, rfl, HH.out⟩
                            case round =>
                              clear HH cr0 HMA HU HN
                              obtain ⟨j, hj, rfl, h0, h1, h2, hb⟩ := hrel
                              by_cases hj8 : j < 8
                              · have c0 := h0.at_ hr8 hj8
                                have c2 := h2.at_ hr8 hj8
                                have d0 := h0.at_ hi8 hj8
                                have d2 := h2.at_ hi8 hj8
                                rw [pelm_row _ _ _ _ _ HNE.out] at c0 c2
                                rw [pelm_i] at d0 d2
                                have f0 := h0.frozen (r * 8 + j)
                                have f2 := h2.frozen (r * 8 + j)
                                have HW : ∀ W, Mats w (pelm m2 (fun a => m2 a i) i r j) (pelm o2 (fun a => m2 a i) i r j) W → Mats w (pelm m2 (fun a => m2 a i) i r (j + 1)) (pelm o2 (fun a => m2 a i) i r j) (W.setCell ⟨w.heap.size, r * 8 + j, none⟩ (vi (fv (m2 r j - m2 r i * m2 i j)))) := fun W ⟨g0, g1, g2, gb⟩ =>
                                  ⟨(g0.set hr8 hj8 (m2 r j - m2 r i * m2 i j)).congr fun a b _ _ => pelm_step m2 (fun a => m2 a i) i r j a b HNE.out,
                                   g1.far (q := ⟨w.heap.size, r * 8 + j, none⟩) (by show w.heap.size + 1 ≠ w.heap.size; omega) _,
                                   g2.far (q := ⟨w.heap.size, r * 8 + j, none⟩) (by show w.heap.size + 1 + 1 ≠ w.heap.size; omega) _,
                                   gb.setCell (p := ⟨w.heap.size, r * 8 + j, none⟩) (Nat.le_refl _) _⟩
                                have HV : ∀ W, Mats w (pelm m2 (fun a => m2 a i) i r (j + 1)) (pelm o2 (fun a => m2 a i) i r j) W → Mats w (pelm m2 (fun a => m2 a i) i r (j + 1)) (pelm o2 (fun a => m2 a i) i r (j + 1)) (W.setCell ⟨w.heap.size + 1 + 1, r * 8 + j, none⟩ (vi (fv (o2 r j - m2 r i * o2 i j)))) := fun W ⟨g0, g1, g2, gb⟩ =>
                                  ⟨g0.far (q := ⟨w.heap.size + 1 + 1, r * 8 + j, none⟩) (by show w.heap.size ≠ w.heap.size + 1 + 1; omega) _,
                                   g1.far (q := ⟨w.heap.size + 1 + 1, r * 8 + j, none⟩) (by show w.heap.size + 1 ≠ w.heap.size + 1 + 1; omega) _,
                                   (g2.set hr8 hj8 (o2 r j - m2 r i * o2 i j)).congr fun a b _ _ => pelm_step o2 (fun a => m2 a i) i r j a b HNE.out,
                                   gb.setCell (p := ⟨w.heap.size + 1 + 1, r * 8 + j, none⟩) (by show w.heap.size ≤ w.heap.size + 1 + 1; omega) _⟩
                                have hcr := (F.below hb F.le).c0
                                have hHM : ∀ n, Mats w (pelm m2 (fun a => m2 a i) i r j) (pelm o2 (fun a => m2 a i) i r j) (wr.drewN n) := fun n => ⟨h0, h1, h2, below_drewN hb n⟩
                                have HHM := Lib.hid hHM
                                have HHW := Lib.hid HW
                                have HHV := Lib.hid HV
                                have X1 := fun (n : Fin p) W hcW => mul_any p hp2 b (fv (m2 r i)) (fv n) (i64_fv _ hp2) (i64_fv _ hp2) W hcW
                                have X2 := fun (n k : Fin p) W hcW => sub_any p hp2 b (fv n) (fv k) (i64_fv _ hp2) (i64_fv _ hp2) W hcW
                                simp only [el_fv] at X1 X2
                                have HX1 := Lib.hid X1
                                have HX2 := Lib.hid X2
                                have j1 : (0 : Int) ≤ (j : Int) := by omega
                                have j2 : (j : Int) < 8 := by omega
                                clear X1 X2 HW HV hHM h0 h1 h2 hb
                                go_wp2
                                refine wp_region_quiet_tail 19 hmx (by kernel_rfl) ?_
                                simp only [List.take_succ_cons, List.take_zero, List.drop_succ_cons, List.drop_zero]
                                repeat (quiet_step (first | (go_at_call 75; exact Calls.quiet_of (HX1.out _ _ (by exact hcr))) | (go_at_call 84; exact Calls.quiet_of_same ((HX2.out _ _ _ (by exact hcr)).mono fun e w' h => ⟨h.1, h.2.symm⟩))))
                                refine wpQuiet_nil ?_
                                intro _ hw'
                                obtain ⟨nq1, hw''⟩ := hw'
                                subst hw''
                                go_wp2
                                have hM5 := HHW.out _ (HHM.out nq1)
                                generalize hW5 : World.setCell (World.drewN wr nq1) _ _ = W5 at hM5
                                obtain ⟨h0, h1, h2, hb⟩ := hM5
                                clear HHW HHM c0 c2 d0 d2 f0 f2 hcr hW5
                                have c2 := h2.at_ hr8 hj8
                                have d2 := h2.at_ hi8 hj8
                                rw [pelm_row _ _ _ _ _ HNE.out] at c2
                                rw [pelm_i] at d2
                                have f2 := h2.frozen (r * 8 + j)
                                have hcr := (F.below hb F.le).c0
                                have hHM : ∀ n, Mats w (pelm m2 (fun a => m2 a i) i r (j + 1)) (pelm o2 (fun a => m2 a i) i r j) (W5.drewN n) := fun n => ⟨h0, h1, h2, below_drewN hb n⟩
                                have HHM := Lib.hid hHM
                                clear hHM h0 h1 h2 hb
                                go_wp2
                                refine wp_region_quiet_tail 19 hmx (by kernel_rfl) ?_
                                simp only [List.take_succ_cons, List.take_zero, List.drop_succ_cons, List.drop_zero]
                                repeat (quiet_step (first | (go_at_call 75; exact Calls.quiet_of (HX1.out _ _ (by exact hcr))) | (go_at_call 84; exact Calls.quiet_of_same ((HX2.out _ _ _ (by exact hcr)).mono fun e w' h => ⟨h.1, h.2.symm⟩))))
                                refine wpQuiet_nil ?_
                                intro _ hw'
                                obtain ⟨nq2, hw''⟩ := hw'
                                subst hw''
                                have HM6 := Lib.hid (HHV.out _ (HHM.out nq2))
                                go_wp2
                                refine ⟨?_, ?measure⟩
                                case measure => simp [intOf]; omega
                                exact ⟨_, _, _, _, _, _, _, _, _, _, _, _, _, _, _, _, _, _, _, _, _, _, _, _, _, _, _, _, _, _, _, _, _, _, _, _, _, _, _, _, _, _, _, ⟨j + 1, by omega, by go_num, HM6.out⟩, rfl⟩
                              · have ej : j = 8 := by omega
                                subst ej
                                have HM6 := Lib.hid (⟨h0.congr fun a b _ hb => pelm_next m2 (fun a => m2 a i) i r a b HNE.out hb, h1, h2.congr fun a b _ hb => pelm_next o2 (fun a => m2 a i) i r a b HNE.out hb, hb⟩ : Mats w (pelm m2 (fun a => m2 a i) i (r + 1) 0) (pelm o2 (fun a => m2 a i) i (r + 1) 0) wr)
                                clear h0 h1 h2 hb
                                go_wp2
                                go_roundw
                                case rel => exact ⟨r + 1, by omega, by go_num, HM6.out⟩
                                case measure => simp [intOf]; omega
                        · have er : r = 8 := by omega
                          subst er
                          have HM6 := Lib.hid (⟨h0.congr fun a b ha _ => pelm_done m2 (fun a => m2 a i) i a b ha, h1, h2.congr fun a b ha _ => pelm_done o2 (fun a => m2 a i) i a b ha, hb⟩ : Mats w (subR m2 (fun a => m2 a i) i) (subR o2 (fun a => m2 a i) i) wr)
                          have HU6 := Lib.hid (HU.out.elim hi8 HN.out)
                          clear h0 h1 h2 hb
                          go_wp2
                          go_roundw
                          case rel => exact ⟨i + 1, _, _, by omega, by go_num, HU6.out, HM6.out⟩
                          case measure => simp [intOf]; omega
        · have ei : i = 8 := by omega
          subst ei
          have HU6 := Lib.hid HU.out
          have hinfo := info64 out
          clear HU
          go_wp2_with (first | (refine wpList_load_row rfl 67 _ rfl (w.heap.size + 1 + 1) rfl _ _ _ _ h2 Tryz.underlying67 rfl (info64 _) ?_) | (refine wpList_store_row rfl 67 _ _ rfl (w.heap.size + 1) _ rfl rfl _ _ h1 (info64 _) (by rw [mt_size, mt_size]) (mt_one _) ?_))
          have hB1 : Blk (wr.setRow (w.heap.size + 1) (mt out)) (w.heap.size + 1) 67 (mt out) := setRow_heap _ _ _ _ _ _ h1
          refine bodyPost_ret (v := .agg (mt out)) (results_cell_row (P := Tryz.prog) (by rfl) _ _ (w.heap.size + 1) _ _ _ _ (by rfl) hB1 Tryz.underlying67 rfl (info64 _)) rfl ⟨⟨m, out, HU6.out, rfl⟩, below_setRow8 hb (by omega) _⟩
end Go.Proofs.YteceghbjjnknbaaGreat

namespace Go.Proofs.YteceghbjjnknbaaGreat
open Go.RowKit Zp
set_option maxHeartbeats 1000000 in
theorem sgcd_any (a n : Nat) (ha : a ≤ 2147483647) (hn : n ≤ 2147483647) (w : World) :
    Calls Tryz.prog 56 #[vi a, vi n] w fun e w' => e = .returned (vi (Nat.gcd a n)) ∧ ∃ k, w' = w.drewN k := by
  go_enter Tryz.func56, Tryz.ntmps56
  go_wp2
  go_loopw [0, 1] (fun x y wr => ∃ (r s k : Nat), x = vi r ∧ y = vi s ∧ r ≤ 2147483647 ∧ s ≤ 2147483647 ∧ Nat.gcd r s = Nat.gcd a n ∧ wr = w.drewN k) (fun _ y _ => (intOf y).toNat)
  case atStart => exact ⟨a, n, 0, rfl, rfl, ha, hn, rfl, rfl⟩
  case round =>
    obtain ⟨r, s, k, rfl, rfl, hr, hs, hg, rfl⟩ := hrel
    have HG := Lib.hid hg
    clear hg
    by_cases h0 : s = 0
    · have HH := Lib.hid h0
      have t1 : ¬ (0 : Int) < (s : Int) := by omega
      clear h0
      go_wp2
      go_ret
      exact ⟨ret_int (by have := HG.out; rw [HH.out, Nat.gcd_zero_right] at this; rw [this]), k, rfl⟩
    · have t1 : (0 : Int) < (s : Int) := by omega
      have t2 : ¬ s = 0 := h0
      have t3 : ((s : Int) == 0) = false := by rw [beq_eq_false_iff_ne]; omega
      have e1 : (r : Int).tmod (s : Int) = ((r % s : Nat) : Int) := by rw [Int.tmod_eq_emod_of_nonneg (by omega), Int.natCast_emod]
      have hlt := Nat.mod_lt r (show 0 < s by omega)
      have hgs := gcd_step r s
      obtain ⟨m, hm⟩ : ∃ m, m = r % s := ⟨_, rfl⟩
      rw [← hm] at e1 hlt hgs
      have HGS := Lib.hid hgs
      clear hgs hm
      go_wp2
      go_region
      all_goals (
        go_wp2
        go_roundw
        case rel => exact ⟨s, m, k + 1, rfl, rfl, hs, by omega, by rw [HGS.out, HG.out], rfl⟩
        case measure => simp [intOf]; omega)
set_option maxHeartbeats 2000000 in
theorem sinv_any (a n : Nat) (ha0 : 0 < a) (ha : a ≤ 2147483647) (hn0 : 0 < n) (hn : n ≤ 2147483647) (hg : Nat.gcd a n = 1) (w : World) :
    Calls Tryz.prog 57 #[vi a, vi n] w fun e w' => (∃ m : Nat, e = .returned (vi m) ∧ m < n ∧ ∃ t : Int, (m : Int) * a = 1 + t * (n : Int)) ∧ w = w' := by
  have HG := Lib.hid hg
  clear hg
  go_enter Tryz.func57, Tryz.ntmps57
  go_wp2
  go_loop [5, 6, 7, 8] (fun x y r s => ∃ (g : Bool) (X Y R S : Nat), x = vi (sgnd g X) ∧ y = vi (- sgnd g Y) ∧ r = vi R ∧ s = vi S ∧ Euc a n g X Y R S) (fun _ _ _ s => (intOf s).toNat)
  case atStart => exact ⟨true, 1, 0, a, n, rfl, rfl, rfl, rfl, Euc.start a n ha0⟩
  case round =>
    obtain ⟨g, X, Y, R, S, rfl, rfl, rfl, rfl, he⟩ := hrel
    have HE := Lib.hid he
    have hX := he.Xle
    have hR := he.rle
    have hSle := he.sle
    obtain ⟨hY, hq⟩ := he.bounds
    clear he
    have hxb : -(X : Int) ≤ sgnd g X ∧ sgnd g X ≤ X := by unfold sgnd; cases g <;> simp <;> omega
    have hyb : -(Y : Int) ≤ sgnd g Y ∧ sgnd g Y ≤ Y := by unfold sgnd; cases g <;> simp <;> omega
    by_cases h0 : S = 0
    · have hE := HE.out
      rw [h0] at hE
      have hd := hE.done HG.out hn0
      obtain ⟨d1, d2, d3⟩ := hd
      have ex : ((sgnd g X).tmod n + n).tmod n = (sgnd g X) % (n : Int) := by
        have hb1 := Int.tmod_lt_of_pos (sgnd g X) (show (0 : Int) < n by omega)
        have hb2 := Int.lt_tmod_of_pos (sgnd g X) (show (0 : Int) < n by omega)
        rw [Int.tmod_eq_emod_of_nonneg (by omega), Int.add_emod_right, Int.tmod_eq_emod]
        split
        · rw [show ((0 : Nat) : Int) = 0 from rfl, Int.sub_zero, Int.emod_emod_of_dvd _ (Int.dvd_refl _)]
        · rw [Int.natAbs_natCast, Int.sub_emod, Int.emod_self, Int.sub_zero, Int.emod_emod_of_dvd _ (Int.dvd_refl _), Int.emod_emod_of_dvd _ (Int.dvd_refl _)]
      have hb1 := Int.tmod_lt_of_pos (sgnd g X) (show (0 : Int) < n by omega)
      have hb2 := Int.lt_tmod_of_pos (sgnd g X) (show (0 : Int) < n by omega)
      obtain ⟨m, hm⟩ := Int.eq_ofNat_of_zero_le d1
      rw [hm] at ex d2 d3
      have D3 := Lib.hid d3
      have t1 : ¬ (0 : Int) < (S : Int) := by omega
      have t3 : ((n : Int) == 0) = false := by rw [beq_eq_false_iff_ne]; omega
      have t4 : ¬ n = 0 := by omega
      obtain ⟨Z, hZ⟩ : ∃ Z, Z = sgnd g X := ⟨_, rfl⟩
      rw [← hZ] at ex hb1 hb2 ⊢
      have i1 : IntKind.i64.wrap (Z.tmod n + n) = Z.tmod n + n := IntWalk.i64_in _ (by omega)
      have i2 : IntKind.i64.wrap (Z.tmod n) = Z.tmod n := IntWalk.i64_in _ (by omega)
      clear d1 d3 hm hZ hE h0 hxb
      go_wp2
      go_ret
      exact ⟨⟨m, rfl, by omega, D3.out⟩, rfl⟩
    · have hS0 : 0 < S := by omega
      have hst := HE.out.step hS0
      have hq' := hq hS0
      have hrm := Nat.mod_lt R hS0
      have hdm := Nat.div_add_mod R S
      obtain ⟨Q, hQ⟩ : ∃ Q, Q = R / S := ⟨_, rfl⟩
      have e1 : (R : Int).tdiv (S : Int) = (Q : Int) := by rw [Int.tdiv_eq_ediv_of_nonneg (by omega), hQ, Int.natCast_ediv]
      rw [← hQ] at hst hq' hdm
      have e2 : (R : Int) - (Q : Int) * S = ((R % S : Nat) : Int) := by
        have h := congrArg (fun n : Nat => (n : Int)) hdm
        simp only [Int.natCast_add, Int.natCast_mul] at h
        rw [Int.mul_comm (S : Int)] at h
        omega
      have e3 : sgnd g X - (Q : Int) * (- sgnd g Y) = - sgnd (!g) (X + Q * Y) := by
        rw [sgnd_not, Int.neg_neg]
        unfold sgnd
        cases g
        · simp only [Bool.false_eq_true, if_false]
          rw [Int.natCast_add, Int.natCast_mul, Int.neg_neg, Int.neg_add]
          omega
        · simp only [if_true]
          rw [Int.natCast_add, Int.natCast_mul, Int.mul_neg]
          omega
      have hQS : Q * S ≤ R := by rw [Nat.mul_comm]; omega
      have hQY : Q * Y ≤ n := by omega
      have b1 : (Q : Int) * S = ((Q * S : Nat) : Int) := by rw [Int.natCast_mul]
      have b2 : (Q : Int) * (- sgnd g Y) = - sgnd g (Q * Y) := by
        unfold sgnd
        cases g
        · simp only [Bool.false_eq_true, if_false]
          rw [Int.neg_neg, Int.neg_neg, Int.natCast_mul]
        · simp only [if_true]
          rw [Int.natCast_mul, Int.mul_neg]
      have b3 : -((Q * Y : Nat) : Int) ≤ sgnd g (Q * Y) ∧ sgnd g (Q * Y) ≤ ((Q * Y : Nat) : Int) := by unfold sgnd; cases g <;> simp <;> omega
      have hQ1 : Q ≤ R := by rw [hQ]; exact Nat.div_le_self _ _
      have hm0 : (R % S : Nat) < S := hrm
      obtain ⟨M, hM⟩ : ∃ M, M = R % S := ⟨_, rfl⟩
      rw [← hM] at hst e2 hm0
      have f1 : sgnd g Y = - (- sgnd g Y) := by omega
      obtain ⟨U, hU⟩ : ∃ U, U = sgnd g X := ⟨_, rfl⟩
      obtain ⟨V, hV⟩ : ∃ V, V = - sgnd g Y := ⟨_, rfl⟩
      rw [← hU, ← hV] at e3
      rw [← hV] at b2
      have hx2 : - sgnd g Y = sgnd (!g) Y := by rw [sgnd_not]
      have HST := Lib.hid hst
      have HE3 := Lib.hid e3
      have HVV := Lib.hid (hV.trans hx2)
      have t1 : (0 : Int) < (S : Int) := by omega
      have t3 : ((S : Int) == 0) = false := by rw [beq_eq_false_iff_ne]; omega
      have t4 : ¬ S = 0 := by omega
      have i1 : IntKind.i64.wrap ((Q : Int) * S) = (Q : Int) * S := IntWalk.i64_in _ (by omega)
      have i2 : IntKind.i64.wrap ((Q : Int) * V) = (Q : Int) * V := IntWalk.i64_in _ (by omega)
      have i3 : IntKind.i64.wrap (U - (Q : Int) * V) = U - (Q : Int) * V := IntWalk.i64_in _ (by omega)
      have i4 : IntKind.i64.wrap (Q : Int) = (Q : Int) := IntWalk.i64_in _ (by omega)
      rw [← hU, ← hV]
      clear hst e3 hQ hdm hU hV hx2 f1 hM hq hq' hQS hrm hxb hyb b1 b2 b3
      go_wp2
      go_round
      case rel => exact ⟨!g, Y, X + Q * Y, S, M, by rw [HVV.out], by rw [HE3.out], rfl, rfl, HST.out⟩
      case measure => simp [intOf]; omega
end Go.Proofs.YteceghbjjnknbaaGreat

namespace Go.Proofs.YteceghbjjnknbaaGreat
open Go.RowKit Zp
def spL (b : Nat) (k z : Int) (m o : Nat → Int) (i : Nat) : Value := if i = 0 then .pointer (some ⟨b, 0, none⟩) else if i = 1 then vi k else if i = 2 then vi z else if i < 67 then vi (m (i - 3)) else vi (o (i - 67))
def spC (b : Nat) (k z : Int) (m o : Nat → Int) : Array Value := ((List.range 131).map (spL b k z m o)).toArray
section
variable (b : Nat) (k z : Int) (m o : Nat → Int)
theorem spC_size : (spC b k z m o).size = 131 := by simp [spC]
theorem spC_get {i : Nat} (h : i < 131) : (spC b k z m o)[i]? = some (spL b k z m o i) := by simp [spC, h]
theorem spC_set {k' z' : Int} {m' o' : Nat → Int} (i : Nat) (v : Value) (h : ∀ j, j < 131 → spL b k' z' m' o' j = if j = i then v else spL b k z m o j) : (spC b k z m o).setIfInBounds i v = spC b k' z' m' o' := by
  apply Array.ext_getElem?
  intro j
  rw [Array.getElem?_setIfInBounds]
  by_cases hj : j < 131
  · rw [spC_get _ _ _ _ _ hj, spC_get _ _ _ _ _ hj, spC_size, h j hj]
    by_cases e : i = j
    · rw [if_pos e, if_pos (by omega), if_pos e.symm]
    · rw [if_neg e, if_neg (fun e' => e e'.symm)]
  · have h1 : (spC b k' z' m' o')[j]? = none := Array.getElem?_eq_none (by rw [spC_size]; omega)
    have h2 : (spC b k z m o)[j]? = none := Array.getElem?_eq_none (by rw [spC_size]; omega)
    rw [h1, h2, spC_size]
    by_cases e : i = j
    · rw [if_pos e, if_neg (by omega)]
    · rw [if_neg e]
theorem spC_k (k' : Int) : (spC b k z m o).setIfInBounds 1 (vi k') = spC b k' z m o := spC_set b k z m o 1 _ fun j hj => by
  unfold spL
  by_cases h0 : j = 0
  · simp [h0]
  · by_cases h1 : j = 1
    · simp [h1]
    · simp [h0, h1]
theorem spC_z (z' : Int) : (spC b k z m o).setIfInBounds 2 (vi z') = spC b k z' m o := spC_set b k z m o 2 _ fun j hj => by
  unfold spL
  by_cases h0 : j = 0
  · simp [h0]
  · by_cases h1 : j = 1
    · simp [h1]
    · by_cases h2 : j = 2
      · simp [h2]
      · simp [h0, h1, h2]
theorem spC_m (i : Nat) (x : Int) (hi : i < 64) : (spC b k z m o).setIfInBounds (3 + i) (vi x) = spC b k z (upd m i x) o := spC_set b k z m o _ _ fun j hj => by
  unfold spL upd
  by_cases h : j = 3 + i
  · have e0 : ¬ j = 0 := by omega
    have e1 : ¬ j = 1 := by omega
    have e2 : ¬ j = 2 := by omega
    have e3 : j < 67 := by omega
    have e4 : j - 3 = i := by omega
    simp only [if_neg e0, if_neg e1, if_neg e2, if_pos e3, if_pos e4, if_pos h]
  · by_cases e0 : j = 0
    · simp only [if_pos e0, if_neg h]
    · by_cases e1 : j = 1
      · simp only [if_neg e0, if_pos e1, if_neg h]
      · by_cases e2 : j = 2
        · simp only [if_neg e0, if_neg e1, if_pos e2, if_neg h]
        · by_cases e3 : j < 67
          · have e4 : ¬ j - 3 = i := by omega
            simp only [if_neg e0, if_neg e1, if_neg e2, if_pos e3, if_neg e4, if_neg h]
          · simp only [if_neg e0, if_neg e1, if_neg e2, if_neg e3, if_neg h]
end
def SpBlk (w : World) (s b : Nat) (k z : Int) (m o : Nat → Int) : Prop := Blk w s 69 (spC b k z m o)
section
variable {w : World} {s b : Nat} {k z : Int} {m o : Nat → Int}
theorem SpBlk.c (h : SpBlk w s b k z m o) {i : Nat} (hi : i < 131) : w.cell? ⟨s, i, none⟩ = some (spL b k z m o i) := by rw [Blk.cell h, spC_get _ _ _ _ _ hi]
theorem SpBlk.c0 (h : SpBlk w s b k z m o) : w.cell? ⟨s, 0, none⟩ = some (.pointer (some ⟨b, 0, none⟩)) := h.c (by omega)
theorem SpBlk.c1 (h : SpBlk w s b k z m o) : w.cell? ⟨s, 1, none⟩ = some (vi k) := h.c (by omega)
theorem SpBlk.c2 (h : SpBlk w s b k z m o) : w.cell? ⟨s, 2, none⟩ = some (vi z) := h.c (by omega)
theorem SpBlk.cm (h : SpBlk w s b k z m o) {i : Nat} (hi : i < 64) : w.cell? ⟨s, 3 + i, none⟩ = some (vi (m i)) := by
  rw [h.c (by omega)]; unfold spL; rw [if_neg (by omega), if_neg (by omega), if_neg (by omega), if_pos (by omega), show 3 + i - 3 = i by omega]
theorem SpBlk.co (h : SpBlk w s b k z m o) {i : Nat} (hi : i < 64) : w.cell? ⟨s, 67 + i, none⟩ = some (vi (o i)) := by
  rw [h.c (by omega)]; unfold spL; rw [if_neg (by omega), if_neg (by omega), if_neg (by omega), if_neg (by omega), show 67 + i - 67 = i by omega]
theorem SpBlk.setk (h : SpBlk w s b k z m o) (k' : Int) : SpBlk (w.setCell ⟨s, 1, none⟩ (vi k')) s b k' z m o := by
  have := Blk.set_ h 1 (vi k')
  rwa [spC_k] at this
theorem SpBlk.setz (h : SpBlk w s b k z m o) (z' : Int) : SpBlk (w.setCell ⟨s, 2, none⟩ (vi z')) s b k z' m o := by
  have := Blk.set_ h 2 (vi z')
  rwa [spC_z] at this
theorem SpBlk.setm (h : SpBlk w s b k z m o) {i : Nat} (hi : i < 64) (x : Int) : SpBlk (w.setCell ⟨s, 3 + i, none⟩ (vi x)) s b k z (upd m i x) o := by
  have := Blk.set_ h (3 + i) (vi x)
  rwa [spC_m _ _ _ _ _ _ _ hi] at this
theorem SpBlk.drewN (h : SpBlk w s b k z m o) (n : Nat) : SpBlk (w.drewN n) s b k z m o := h
end
theorem spC_new (b : Nat) (w : World) : SpBlk (w.alloc (.cells (spC b 2 0 (fun _ => 0) (fun _ => 0)) 69)) w.heap.size b 2 0 (fun _ => 0) (fun _ => 0) := Blk.new _ _ _
theorem gcd_pred {p : Nat} (hp : 1 ≤ p) : Nat.gcd p (p - 1) = 1 := by
  have h : Nat.gcd p (p - 1) ∣ 1 := by
    have h1 := Nat.gcd_dvd_left p (p - 1)
    have h2 := Nat.gcd_dvd_right p (p - 1)
    have := Nat.dvd_sub h1 h2
    rwa [show p - (p - 1) = 1 by omega] at this
  exact Nat.dvd_one.1 h
theorem Euc.ends {a n : Nat} : ∀ (s : Nat) {g : Bool} {X Y r : Nat}, Euc a n g X Y r s → ∃ (g' : Bool) (X' Y' r' : Nat), Euc a n g' X' Y' r' 0 := fun s => by
  induction s using Nat.strongRecOn with
  | ind s ih =>
    intro g X Y r h
    rcases Nat.eq_zero_or_pos s with e | e
    · subst e; exact ⟨_, _, _, _, h⟩
    · exact ih _ (Nat.mod_lt _ e) (h.step e)
theorem inv_ex {a n : Nat} (ha : 0 < a) (hn : 0 < n) (hg : Nat.gcd a n = 1) : ∃ m : Nat, m < n ∧ ∃ t : Int, (m : Int) * a = 1 + t * (n : Int) := by
  obtain ⟨g, X, Y, r, E⟩ := Euc.ends n (Euc.start a n ha)
  obtain ⟨h0, h1, t, ht⟩ := E.done hg hn
  exact ⟨(sgnd g X % (n : Int)).toNat, by omega, t, by rw [Int.toNat_of_nonneg h0]; exact ht⟩
theorem inv_le {a n m k : Nat} (hg : Nat.gcd a n = 1) (hm : m < n) (hmk : k ≤ m) {t u : Int} (h : (m : Int) * a = 1 + t * (n : Int)) (h' : (k : Int) * a = 1 + u * (n : Int)) : m = k := by
  have e : (((m - k) * a : Nat) : Int) = (t - u) * (n : Int) := by
    rw [Int.natCast_mul, Int.ofNat_sub hmk, Int.sub_mul, h, h', Int.sub_mul]; omega
  have d : n ∣ (m - k) * a := Int.natCast_dvd_natCast.1 ⟨t - u, by rw [e, Int.mul_comm]⟩
  have d2 : n ∣ m - k := Nat.Coprime.dvd_of_dvd_mul_right (show Nat.gcd n a = 1 by rw [Nat.gcd_comm]; exact hg) d
  have := Nat.eq_zero_of_dvd_of_lt d2 (by omega)
  omega
theorem inv_uni {a n m k : Nat} (hg : Nat.gcd a n = 1) (hm : m < n) (hk : k < n) (h : ∃ t : Int, (m : Int) * a = 1 + t * (n : Int)) (h' : ∃ t : Int, (k : Int) * a = 1 + t * (n : Int)) : m = k := by
  obtain ⟨t, h⟩ := h
  obtain ⟨u, h'⟩ := h'
  rcases Nat.le_total k m with e | e
  · exact inv_le hg hm e h h'
  · exact (inv_le hg hk e h' h).symm
def mfill (p : Nat) [NeZero p] (n t : Nat) : Int := if t < n then fv (cauchy p (t / 8) (t % 8)) else 0
theorem mfill_step (p : Nat) [NeZero p] {i j : Nat} (hj : j < 8) : upd (mfill p (i * 8 + j)) (i * 8 + j) (fv (cauchy p i j)) = mfill p (i * 8 + (j + 1)) := by
  funext t
  unfold upd mfill
  by_cases h : t = i * 8 + j
  · rw [if_pos h, if_pos (by omega), h, show (i * 8 + j) / 8 = i by omega, show (i * 8 + j) % 8 = j by omega]
  · rw [if_neg h]
    by_cases h1 : t < i * 8 + j
    · rw [if_pos h1, if_pos (by omega)]
    · rw [if_neg h1, if_neg (by omega)]
structure Spg {p : Nat} [NeZero p] (w : World) (s b k z : Nat) (oo : Nat → Nat → Fin p) : Prop where
  c0 : w.cell? ⟨s, 0, none⟩ = some (.pointer (some ⟨b, 0, none⟩))
  c1 : w.cell? ⟨s, 1, none⟩ = some (vi k)
  c2 : w.cell? ⟨s, 2, none⟩ = some (vi z)
  k2 : 2 ≤ k
  kp : k ≤ p
  least : ∀ j, 2 ≤ j → j < k → Nat.gcd j (p - 1) ≠ 1
  cop : Nat.gcd k (p - 1) = 1
  zp : z < p - 1
  root : ∃ t : Int, (z : Int) * k = 1 + t * ((p - 1 : Nat) : Int)
  mat : MatAt w s 3 (cauchy p)
  oth : MatAt w s 67 oo
  undo : ∃ mm, Undo (cauchy p) mm oo 8
theorem SpBlk.range {p : Nat} [NeZero p] {w : World} {s b : Nat} {k z : Int} {o : Nat → Int} (h : SpBlk w s b k z (mfill p 64) o) : w.rangeAt s 3 (mt (cauchy p)).toList := fun j v hv => by
  have hj : j < 64 := by
    have := (List.getElem?_eq_some_iff.1 hv).1
    rwa [Array.length_toList, mt_size] at this
  rw [Array.getElem?_toList, mt_get' _ hj] at hv
  injection hv with hv
  rw [← hv, h.cm hj]
  unfold mfill
  rw [if_pos hj]
theorem SpBlk.there67 {w : World} {s b : Nat} {k z : Int} {m o : Nat → Int} (h : SpBlk w s b k z m o) : w.there s 67 64 := fun j hj => ⟨by rw [h.co hj]; rfl, Blk.frozen h _⟩
theorem spg_of {p : Nat} [NeZero p] {w : World} {s b k z : Nat} (h : SpBlk w s b k z (mfill p 64) (fun _ => 0)) {mm oo : Nat → Nat → Fin p} (hu : Undo (cauchy p) mm oo 8) (k2 : 2 ≤ k) (kp : k ≤ p) (least : ∀ j, 2 ≤ j → j < k → Nat.gcd j (p - 1) ≠ 1) (cop : Nat.gcd k (p - 1) = 1) (zp : z < p - 1) (root : ∃ t : Int, (z : Int) * k = 1 + t * ((p - 1 : Nat) : Int)) :
    Spg (w.setCells s 67 (mt oo).toList) s b k z oo := by
  have hl : (mt oo).toList.length = 64 := by rw [Array.length_toList, mt_size]
  have low : ∀ i, i < 67 → (w.setCells s 67 (mt oo).toList).cell? ⟨s, i, none⟩ = w.cell? ⟨s, i, none⟩ := fun i hi => World.cell?_setCells_out s _ 67 w ⟨s, i, none⟩ (fun _ _ => .inl hi)
  refine ⟨by rw [low 0 (by omega)]; exact h.c0, by rw [low 1 (by omega)]; exact h.c1, by rw [low 2 (by omega)]; exact h.c2, k2, kp, least, cop, zp, root, fun i j hi hj => ?_, fun i j hi hj => ?_, ⟨mm, hu⟩⟩
  · rw [low _ (by omega)]
    have := h.cm (i := i * 8 + j) (by omega)
    rw [← Nat.add_assoc] at this
    rw [this]
    unfold mfill
    rw [if_pos (by omega), show (i * 8 + j) / 8 = i by omega, show (i * 8 + j) % 8 = j by omega]
  · have := World.rangeAt_setCells_same w s 67 (mt oo).toList (by rw [hl]; exact h.there67) (i * 8 + j) (vi (fv (oo i j))) (by rw [Array.getElem?_toList, mt_get _ hi hj])
    rwa [← Nat.add_assoc] at this
theorem wpList_load_mt {p : Nat} {ops : Array Oper} {rest : List Oper} {op : Oper} {a : Act} {w : World} {Q : Exit → Act → World → Prop} (hgd : op.guard = none) (x : Operand) (ho : op.op = .load 67 x)
    (b o : Nat) (hx : a.eval x = .pointer (some ⟨b, o, none⟩)) (m : Nat → Nat → Fin p) (hc : w.rangeAt b o (mt m).toList) (h : wpList Tryz.prog ops Q rest (a.put op.dst (.agg (mt m))) w) : wpList Tryz.prog ops Q (op :: rest) a w := by
  refine wpList_load_mid hgd 67 x ho b o hx _ _ hc Tryz.underlying67 rfl (by rw [Array.length_toList]; exact info64 m) ?_
  rw [Array.toArray_toList]
  exact h
set_option maxRecDepth 100000 in
set_option maxHeartbeats 2000000 in
theorem spnew_any (p S b : Nat) [NeZero p] (h23 : 23 ≤ p) (w : World) (F : Fld w S b p) :
    Calls Tryz.prog 17 #[.pointer (some ⟨b, 0, none⟩)] w fun e w' => e = .returned (.tuple #[.pointer (some ⟨w.heap.size, 0, none⟩), .nilIface]) ∧ (∃ (k z : Nat) (oo : Nat → Nat → Fin p), Spg w' w.heap.size b k z oo) ∧ Below w.heap.size w w' := by
  have hp := F.prime
  have hp1 := F.two
  have hp2 := F.max
  have hcb := F.c0
  have hbl := block_lt_of_cell hcb
  have HP := Lib.hid hp
  have tq : ((p : Int) < 23) = False := by simp; omega
  clear hp
  go_enter Tryz.func17, Tryz.ntmps17
  obtain ⟨q, hq⟩ : ∃ q, q = p - 1 := ⟨_, rfl⟩
  have hqw : IntKind.i64.wrap ((p : Int) - 1) = (q : Int) := by
    have e : (p : Int) - 1 = (q : Int) := by omega
    rw [e]
    exact IntWalk.i64_in _ (by omega)
  have hg0 : Nat.gcd p q = 1 := by rw [hq]; exact gcd_pred (by omega)
  have HG0 := Lib.hid hg0
  have HQ := Lib.hid hq
  have HQW := Lib.hid hqw
  have hz : ((Tryz.zeroCells69.setIfInBounds 0 (Value.pointer (some ⟨b, 0, none⟩))).setIfInBounds 1 (Value.int IntKind.i64 2)) = spC b 2 0 (fun _ => 0) (fun _ => 0) := by kernel_rfl
  have HZ := Lib.hid hz
  have hW := spC_new b w
  have hbW : Below w.heap.size w (w.alloc (.cells (spC b 2 0 (fun _ => 0) (fun _ => 0)) 69)) := (Below.refl _ _).alloc (Nat.le_refl _) _
  have HW := Lib.hid hW
  have HBW := Lib.hid hbW
  clear hz hW hbW hg0 hq hqw
  go_wp2_with (go_at_call 18; refine (p_any p b _ (by exact hcb)).mono ?_; rintro _ _ ⟨rfl, rfl⟩)
  rw [HZ.out]
  have hW := HW.out
  have hbW := HBW.out
  clear HW HBW HZ
  generalize World.alloc _ _ = W0 at hW hbW
  go_loopw [14] (fun _ wr => ∃ k : Nat, 2 ≤ k ∧ k ≤ p ∧ (∀ j, 2 ≤ j → j < k → Nat.gcd j q ≠ 1) ∧ SpBlk wr w.heap.size b k 0 (fun _ => 0) (fun _ => 0) ∧ Below w.heap.size w wr) (fun _ wr => p - (intOf ((wr.cell? ⟨w.heap.size, 1, none⟩).getD undef)).toNat)
  case atStart => exact ⟨2, by omega, by omega, fun j h1 h2 => by omega, hW, hbW⟩
  case round =>
    clear hW hbW
    obtain ⟨k, hk2, hkp, hkl, hB, hb⟩ := hrel
    have hc1 := hB.c1
    have hcr := (F.below hb F.le).c0
    have hfr := Blk.frozen hB 1
    have hgc := fun W => sgcd_any k q (by omega) (by have := HQ.out; omega) W
    have HGC := Lib.hid hgc
    have HKL := Lib.hid hkl
    clear hgc hkl
    have hqw := HQW.out
    by_cases hg : Nat.gcd k q = 1
    · have tg : (((Nat.gcd k q : Nat) : Int) != 1) = false := by rw [hg]; rfl
      have HGK := Lib.hid hg
      clear hg
      go_wp2
      go_quiet (first | (go_at_call 18; exact Calls.quiet_of_same ((p_any p b _ (by exact hcr)).mono fun e w' h => ⟨h.1, h.2.symm⟩)) | (go_at_call 56; exact Calls.quiet_of (HGC.out _)))
      go_wp2
      obtain ⟨z, hz1, hz2⟩ := inv_ex (a := k) (n := q) (by omega) (by have := HQ.out; omega) HGK.out
      have hinv : ∀ W, Calls Tryz.prog 57 #[vi k, vi q] W fun e w' => e = .returned (vi z) ∧ w' = W := fun W => (sinv_any k q (by omega) (by omega) (by have := HQ.out; omega) (by have := HQ.out; omega) HGK.out W).mono fun e w' h => by
        obtain ⟨⟨m, h1, h2, h3⟩, h4⟩ := h
        rw [inv_uni HGK.out h2 hz1 h3 hz2] at h1
        exact ⟨h1, h4.symm⟩
      have HINV := Lib.hid hinv
      have HZ1 := Lib.hid hz1
      have HZ2 := Lib.hid hz2
      have hB' := hB.drewN nq
      have hb' := below_drewN hb nq
      clear hc1 hcr hfr hB hb
      generalize World.drewN wr nq = W1 at hB' hb'
      have hc1 := hB'.c1
      have hc2 := hB'.c2
      have hf2 := Blk.frozen hB' 2
      have hcr := (F.below hb' F.le).c0
      have HBK := Lib.hid hB'
      have HBL := Lib.hid hb'
      have hmx : Tryz.prog.follows .mixedOrders = true := by kernel_rfl
      clear hinv hz1 hz2 hB' hb' tg
      refine wp_region_quiet_tail 9 hmx (by kernel_rfl) ?_
      simp only [List.take_succ_cons, List.take_zero, List.drop_succ_cons, List.drop_zero]
      repeat (quiet_step (first | (go_at_call 18; exact Calls.quiet_of_same ((p_any p b _ (by exact hcr)).mono fun e w' h => ⟨h.1, h.2.symm⟩)) | (go_at_call 57; exact Calls.quiet_of_same (HINV.out _))))
      refine wpQuiet_nil ?_
      intro _ hw'
      obtain ⟨nq1, hw''⟩ := hw'
      subst hw''
      have HB1 := Lib.hid ((HBK.out.drewN nq1).setz (z : Int))
      have HB2 := Lib.hid ((below_drewN HBL.out nq1).setCell (p := ⟨w.heap.size, 2, none⟩) (Nat.le_refl _) (vi (z : Int)))
      go_wp2
      clear hf2 hc2 hc1 hcr HBK HBL hqw HGC HINV
      have hB1 := HB1.out
      have hb2 := HB2.out
      clear HB1 HB2
      generalize World.setCell _ _ _ = W2 at hB1 hb2
      go_loopw [41] (fun t wr => ∃ i : Nat, i ≤ 8 ∧ t = vi i ∧ SpBlk wr w.heap.size b k z (mfill p (i * 8 + 0)) (fun _ => 0) ∧ Below w.heap.size w wr) (fun t _ => 8 - (intOf t).toNat)
      case atStart =>
        refine ⟨0, by omega, rfl, ?_, hb2⟩
        have e : mfill p (0 * 8 + 0) = fun _ => 0 := by funext t; unfold mfill; rw [if_neg (by omega)]
        rw [e]
        exact hB1
      case round =>
        clear hB1 hb2
        obtain ⟨i, hi, rfl, hB, hb⟩ := hrel
        by_cases hi8 : i < 8
        · have i1 : (0 : Int) ≤ (i : Int) := by omega
          have i2 : (i : Int) < 8 := by omega
          have HB := Lib.hid hB
          have HBB := Lib.hid hb
          clear hB hb
          go_wp2
          go_loopw [44] (fun t wr => ∃ j : Nat, j ≤ 8 ∧ t = vi j ∧ SpBlk wr w.heap.size b k z (mfill p (i * 8 + j)) (fun _ => 0) ∧ Below w.heap.size w wr) (fun t _ => 8 - (intOf t).toNat)
          case atStart => exact ⟨0, by omega, rfl, HB.out, HBB.out⟩
          case round =>
            clear HB HBB
            obtain ⟨j, hj, rfl, hB, hb⟩ := hrel
            by_cases hj8 : j < 8
            · have j1 : (0 : Int) ≤ (j : Int) := by omega
              have j2 : (j : Int) < 8 := by omega
              have hcr := (F.below hb F.le).c0
              have hcm := hB.cm (i := i * 8 + j) (by omega)
              rw [← Nat.add_assoc] at hcm
              have hfm := Blk.frozen hB (3 + i * 8 + j)
              have hiv := fun W hcW => inv_any p hp1 hp2 b ((i : Int) + j + 8) (by constructor <;> omega) W hcW
              have e1 : el p ((i : Int) + j + 8) = el p ((i + j + 8 : Nat) : Int) := by congr 1
              rw [e1] at hiv
              obtain ⟨X, hX⟩ : ∃ X, X = cauchy p i j := ⟨_, rfl⟩
              have hX' : Zp.inv (el p ((i + j + 8 : Nat) : Int)) = X := by rw [hX]; rfl
              rw [hX'] at hiv
              have HIV := Lib.hid hiv
              have hnw : ∀ W, SpBlk W w.heap.size b k z (mfill p (i * 8 + j)) (fun _ => 0) → SpBlk (W.setCell ⟨w.heap.size, 3 + i * 8 + j, none⟩ (vi (fv X))) w.heap.size b k z (mfill p (i * 8 + (j + 1))) (fun _ => 0) := fun W h => by
                have := h.setm (i := i * 8 + j) (by omega) (fv X)
                rw [hX, mfill_step p hj8, ← hX, ← Nat.add_assoc] at this
                exact this
              have HNW := Lib.hid hnw
              have HB := Lib.hid hB
              have HBB := Lib.hid hb
              have w1 : IntKind.i64.wrap ((i : Int) + j) = (i : Int) + j := IntWalk.i64_in _ (by omega)
              have w2 : IntKind.i64.wrap ((i : Int) + j + 8) = (i : Int) + j + 8 := IntWalk.i64_in _ (by omega)
              clear hiv hX hX' e1 hnw hB hb
              go_wp2
              refine wp_region_quiet_tail 12 hmx (by kernel_rfl) ?_
              simp only [List.take_succ_cons, List.take_zero, List.drop_succ_cons, List.drop_zero]
              repeat (quiet_step ((go_at_call 58; exact Calls.quiet_of_same ((HIV.out _ (by exact hcr)).mono fun e w' h => ⟨h.1, h.2.symm⟩))))
              refine wpQuiet_nil ?_
              intro _ hw'
              obtain ⟨nq2, hw''⟩ := hw'
              subst hw''
              have HB3 := Lib.hid (HNW.out _ (HB.out.drewN nq2))
              have HB4 := Lib.hid ((below_drewN HBB.out nq2).setCell (p := ⟨w.heap.size, 3 + i * 8 + j, none⟩) (Nat.le_refl _) (vi (fv X)))
              go_wp2
              clear w1 w2 hcr hcm hfm
              go_roundw
              case rel => exact ⟨j + 1, by omega, by go_num, HB3.out, HB4.out⟩
              case measure => simp [intOf]; omega
            · have ej : j = 8 := by omega
              subst ej
              have HB3 := Lib.hid hB
              have HB4 := Lib.hid hb
              clear hB hb
              go_wp2
              go_roundw
              case rel => exact ⟨i + 1, by omega, by go_num, by rw [show (i + 1) * 8 + 0 = i * 8 + 8 by omega]; exact HB3.out, HB4.out⟩
              case measure => simp [intOf]; omega
        · have ei : i = 8 := by omega
          subst ei
          have HB := Lib.hid hB
          have HBB := Lib.hid hb
          clear hB hb
          have hMi : Inj (cauchy p) := cauchy_inj HP.out h23
          have hU := undone_any p S b (cauchy p) hMi wr (F.below HBB.out F.le)
          have HU := Lib.hid hU
          have HR := Lib.hid (HB.out.range)
          have HLT := Lib.hid (Blk.lt HB.out)
          have HMI := Lib.hid hMi
          clear hMi hU
          go_wp2_with (first | (refine wpList_load_mt rfl _ rfl w.heap.size 3 rfl (cauchy p) HR.out ?_) | (go_at_call 59; refine (HU.out).mono ?_; rintro _ w3 ⟨⟨mm, oo, hun, rfl⟩, hb3⟩; have HU3 := Lib.hid hun; have HB3 := Lib.hid (Blk.below HB.out hb3 HLT.out); have hth := SpBlk.there67 HB3.out; have HB4 := Lib.hid hb3; clear hun hb3) | (refine wpList_store_mid rfl 67 _ _ rfl w.heap.size 67 (mt oo) rfl rfl (by rw [mt_size]; exact hth) (info64 _) (mt_one _) ?_))
          go_ret2
          have hgk := HGK.out
          have hkl := HKL.out
          have hz1 := HZ1.out
          have hz2 := HZ2.out
          rw [HQ.out] at hgk hkl hz1 hz2
          exact ⟨rfl, ⟨k, z, oo, spg_of HB3.out HU3.out hk2 hkp hkl hgk hz1 hz2⟩, below_setCells w.heap.size (Nat.le_refl _) _ _ _ (HBB.out.trans (HB4.out.mono HBB.out.size))⟩
    · have tg : (((Nat.gcd k q : Nat) : Int) != 1) = true := by rw [bne_iff_ne]; omega
      have hkp' : k < p := by
        rcases Nat.lt_or_ge k p with h | h
        · exact h
        · have : k = p := by omega
          exact absurd (this ▸ HG0.out) hg
      have HGK := Lib.hid hg
      clear hg
      have hs1 := hB.setk ((k + 1 : Nat) : Int)
      have hsb := hb.setCell (p := ⟨w.heap.size, 1, none⟩) (Nat.le_refl _) (vi ((k + 1 : Nat) : Int))
      have HS := Lib.hid hs1
      have HSB := Lib.hid hsb
      clear hs1 hsb
      go_wp2
      go_quiet (first | (go_at_call 18; exact Calls.quiet_of_same ((p_any p b _ (by exact hcr)).mono fun e w' h => ⟨h.1, h.2.symm⟩)) | (go_at_call 56; exact Calls.quiet_of (HGC.out _)))
      go_wp2
      have hnew := (hB.drewN nq).setk ((k : Int) + 1)
      have hm1 := hnew.c1
      refine ⟨⟨k + 1, by omega, by omega, fun j h1 h2 => ?_, hnew, (below_drewN hb nq).setCell (p := ⟨w.heap.size, 1, none⟩) (Nat.le_refl _) _⟩, ?_⟩
      · rcases Nat.lt_or_ge j k with h | h
        · exact HKL.out j h1 h
        · have : j = k := by omega
          rw [this]; exact HGK.out
      · rw [hm1, hc1]
        simp [intOf]
        omega
end Go.Proofs.YteceghbjjnknbaaGreat

namespace Go.Proofs.YteceghbjjnknbaaGreat
open Go.RowKit
section
variable {P : Program} (w : World)
theorem run_append_of_nil (base : Nat) (t ty e : TypeId) (i : TypeInfo) (size : Nat) (ht : P.underlying t = some (.slice e)) (hi : P.info? e = some i)
    (v : Value) (n : Nat) (xs : List Value) (hown : w.ownsRow base e size v n xs) (c : Nat) : (Builtin.append_ #[t, t] ty #[v, .slice none 0 c]).run P w = .ok v w := by
  rcases hown.2 with ⟨rfl, rfl⟩ | ⟨g, cap, cur, rfl, _, _, hnc, _⟩
  · simp [Builtin.append_, run_underlying ht, sizeOf, typeInfo, hi, Builtin.lenOf, Builtin.firstCells]
  · simp [Builtin.append_, run_underlying ht, sizeOf, typeInfo, hi, Builtin.lenOf, Builtin.firstCells, hnc, storeCells]
theorem run_append_any (base : Nat) (t ty e : TypeId) (i : TypeInfo) (z : Value) (size bytes : Nat) (ht : P.underlying t = some (.slice e)) (hi : P.info? e = some i) (hz : i.zero = some z)
    (hsize : i.size = size) (hby : i.bytes = bytes) (hzs : z.cells.size = size) (hsz : 0 < size)
    (v : Value) (n : Nat) (xs : List Value) (hown : w.ownsRow base e size v n xs)
    (B : Nat) (A : Option Addr) (m c : Nat) (news : List Value) (hr : Reads w B size A m news) (h1 : ∀ u ∈ news, u.oneCell' = true)
    (h63 : n + m ≤ maxLen) (hbytes : (n + m) * bytes ≤ 140737488355328) (hbase : base ≤ w.heap.size) :
    ∃ v' w', (Builtin.append_ #[t, t] ty #[v, .slice A m c]).run P w = .ok v' w' ∧ w'.ownsRow base e size v' (n + m) (xs ++ news) ∧ w.grownBy w' v.ownBlock ∧
      (v'.ownBlock = v.ownBlock ∨ v'.ownBlock = some w.heap.size) := by
  rcases A with _ | ad
  · have hm : m = 0 := by
      rcases Nat.eq_zero_or_pos m with h0 | h0
      · exact h0
      · obtain ⟨ad, h, _⟩ := hr.2 h0
        cases h
    subst hm
    have hn : news = [] := List.eq_nil_of_length_eq_zero (by simpa using hr.1)
    subst hn
    exact ⟨v, w, run_append_of_nil w base t ty e i size ht hi v n xs hown c, by simpa using hown, World.grownBy.refl w _, .inl rfl⟩
  · have hcells : ∀ j u, news[j]? = some u → w.cell? (ad.add j) = some u := by
      intro j u hu
      rcases Nat.eq_zero_or_pos m with h0 | h0
      · subst h0
        have hn : news = [] := List.eq_nil_of_length_eq_zero (by simpa using hr.1)
        subst hn
        simp at hu
      · obtain ⟨ad', h, _, hc⟩ := hr.2 h0
        injection h with h
        subst h
        exact hc j u hu
    obtain ⟨v', w', hrun, h2, h3, _, h5⟩ := run_append_own_at (P := P) w base t ty e i z size bytes ht hi hz hsize hby hzs hsz v n xs hown ad m c news hr.1 hcells h1 h63 hbytes hbase
    exact ⟨v', w', hrun, h2, h3, h5⟩
end
theorem run_appA (w : World) (base : Nat) (v : Value) (xs : List Int) (A : Option Addr) (m c : Nat) (ys : List Int) (hm : ys.length = m) (hown : Own w base v xs) (hr : SL w A ys) (hlen : xs.length + m ≤ 17592186044416) (hbase : base ≤ w.heap.size) (ty : TypeId) :
    ∃ v' w', (Builtin.append_ #[25, 25] ty #[v, .slice A m c]).run Tryz.prog w = .ok v' w' ∧ Grew w w' base v v' (xs ++ ys) := by
  subst hm
  obtain ⟨i0, hi, hz0, hz1, hz2⟩ := info_parts info_int
  obtain ⟨v', w', hrun, h2, h3, h4⟩ := run_append_any (P := Tryz.prog) w base 25 ty 3 i0 _ 1 8 Tryz.underlying25 hi hz0 hz1 hz2 rfl (by omega) v xs.length (xs.map vi) hown w.heap.size A ys.length c (ys.map vi) hr
    (fun u hu => by obtain ⟨n, _, rfl⟩ := List.mem_map.1 hu; rfl) (by simp only [maxLen]; omega) (by omega) hbase
  refine ⟨v', w', hrun, ?_, h3, ?_⟩
  · rw [Own, List.length_append, List.map_append]
    exact h2
  · rcases h4 with h | h
    · exact .inl h
    · exact .inr ⟨_, h, Nat.le_refl _⟩
theorem wpList_appA {ops : Array Oper} {rest : List Oper} {o : Oper} {a : Act} {Q : Exit → Act → World → Prop} (w : World) (hgd : o.guard = none) (s x : Operand)
    (ho : o.op = .call { callee := .builtin .append, args := #[s, x], argTypes := #[25, 25] })
    (base : Nat) (v : Value) (xs : List Int) (A : Option Addr) (m c : Nat) (ys : List Int) (hs : a.eval s = v) (hx : a.eval x = .slice A m c) (hm : ys.length = m) (hown : Own w base v xs) (hr : SL w A ys) (hlen : xs.length + m ≤ 17592186044416) (hbase : base ≤ w.heap.size)
    (h : ∀ v' w', Grew w w' base v v' (xs ++ ys) → wpList Tryz.prog ops Q rest (a.put o.dst v') w') : wpList Tryz.prog ops Q (o :: rest) a w :=
  wpList_plain hgd fun _ hK => by
    obtain ⟨v', w', hrun, hg⟩ := run_appA w base v xs A m c ys hm hown hr hlen hbase o.type
    unfold Oper.wp execOp
    simp only [ho, resolve, invoke, builtin, Sem.run_bind, Sem.run_pure, Result.andThen_ok, List.map_toArray, List.map_cons, List.map_nil, hs, hx, hrun]
    exact hK _ _ (h v' w' hg)
theorem own_empty (w : World) (base : Nat) (hb : base ≤ w.heap.size) : Own (w.alloc (.cells #[] 3)) base (.slice (some ⟨w.heap.size, 0, none⟩) 0 0) [] :=
  World.ownsRow_made w _ 0 hb (Nat.zero_le _) rfl
set_option maxHeartbeats 1000000 in
theorem clone_any (A : Option Addr) (m c : Nat) (xs : List Int) (hm : xs.length = m) (hlen : m ≤ 17592186044416) (w : World) (hs : SL w A xs) :
    Calls Tryz.prog 65 #[.slice A m c] w fun e w' => Made xs w e w' := by
  have hq := fun (W : World) => Lib.run_eql_slice_nil (P := Tryz.prog) W 25 3 A m c 0 0 Tryz.underlying25
  cases A with
  | none =>
    have hx : xs = [] := by
      rcases Nat.eq_zero_or_pos xs.length with h | h
      · exact List.length_eq_zero_iff.1 h
      · obtain ⟨ad, h1, _⟩ := hs.at_ h
        cases h1
    have hn : (none : Option Addr).isNone = true := rfl
    have HX := Lib.hid hx
    clear hx hm
    go_enter Tryz.func65, Tryz.ntmps65
    go_wp2
    go_ret
    exact ⟨_, rfl, by rw [HX.out]; exact World.ownsRow_nil _ _ _ _, Below.refl _ _⟩
  | some ad =>
    have HM := Lib.hid hm
    clear hm
    have hs' : SL (w.alloc (.cells #[] 3)) (some ad) xs := hs.below ((Below.refl _ _).alloc (Nat.le_refl _) _)
    have ho := own_empty w w.heap.size (Nat.le_refl _)
    go_enter Tryz.func65, Tryz.ntmps65
    go_wp2_with (at_builtin; refine wpList_appA _ rfl _ _ rfl w.heap.size _ [] (some ad) m c xs rfl rfl HM.out ho hs' (by simpa using hlen) (by simp) ?_; intro v' w1 hg)
    go_ret
    exact ⟨v', rfl, hg.own, hg.below ((Below.refl _ _).alloc (Nat.le_refl _) _) ho (Nat.le_refl _) (by simp)⟩
end Go.Proofs.YteceghbjjnknbaaGreat

namespace Go.Proofs.YteceghbjjnknbaaGreat
open Go.RowKit Zp
theorem Spg.below {p : Nat} [NeZero p] {B : Nat} {w w' : World} {s b k z : Nat} {oo : Nat → Nat → Fin p} (h : Spg w s b k z oo) (hb : Below B w w') (hs : s < B) : Spg w' s b k z oo :=
  ⟨(hb.cell (p := ⟨s, 0, none⟩) hs).trans h.c0, (hb.cell (p := ⟨s, 1, none⟩) hs).trans h.c1, (hb.cell (p := ⟨s, 2, none⟩) hs).trans h.c2, h.k2, h.kp, h.least, h.cop, h.zp, h.root,
   h.mat.keep fun q hq => hb.cell (by rw [hq]; exact hs), h.oth.keep fun q hq => hb.cell (by rw [hq]; exact hs), h.undo⟩
end Go.Proofs.YteceghbjjnknbaaGreat
