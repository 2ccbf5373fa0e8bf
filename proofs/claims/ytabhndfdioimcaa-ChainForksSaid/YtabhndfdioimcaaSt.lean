/- Arrays of eight ints in memory. -/
import Derived.Test.YtabhndfdioimcaaDv
import Derived.Test.YtabhndfdioimcaaCy
import Derived.Deep.MidRow
import Derived.Deep.WholeRow
import Derived.Deep.RegionHeld3
set_option linter.unusedVariables false
namespace Go.Proofs.Ytabhndfdioimcaa
open Go.RowKit Zp

/-- eight ints -/
def st (x : Nat → Int) : Array Value := ((List.range 8).map fun i => vi (x i)).toArray
theorem st_size (x : Nat → Int) : (st x).size = 8 := by simp [st]
theorem st_get (x : Nat → Int) {i : Nat} (h : i < 8) : (st x)[i]? = some (vi (x i)) := by simp [st, h]
theorem st_congr {x y : Nat → Int} (h : ∀ i, i < 8 → x i = y i) : st x = st y := by
  unfold st
  congr 1
  exact List.map_congr_left fun i hi => by rw [h i (List.mem_range.1 hi)]
def upd (x : Nat → Int) (i : Nat) (n : Int) (j : Nat) : Int := if j = i then n else x j
theorem st_set (x : Nat → Int) (i : Nat) (n : Int) (h : i < 8) : (st x).setIfInBounds i (vi n) = st (upd x i n) := by
  apply Array.ext_getElem?
  intro j
  rw [Array.getElem?_setIfInBounds]
  by_cases hj : j < 8
  · rw [st_get _ hj, st_size]
    unfold upd
    by_cases e : i = j
    · subst e; rw [if_pos rfl, if_pos h, st_get _ hj, if_pos rfl]
    · rw [if_neg e, st_get _ hj, if_neg (fun e' => e e'.symm)]
  · have h1 : (st (upd x i n))[j]? = none := Array.getElem?_eq_none (by rw [st_size]; omega)
    have h2 : (st x)[j]? = none := Array.getElem?_eq_none (by rw [st_size]; omega)
    rw [h1, h2, if_neg (by omega)]
theorem st_one (x : Nat → Int) : (st x).all (·.oneCell') = true := by
  rw [Array.all_eq_true_iff_forall_mem]
  intro v hv
  simp only [st, List.mem_toArray, List.mem_map] at hv
  obtain ⟨i, _, rfl⟩ := hv
  rfl
/-- a matrix in memory, from a cell on -/
def MatAt (w : World) (b o : Nat) {p : Nat} (m : Nat → Nat → Fin p) : Prop := ∀ i j, i < 8 → j < 8 → w.cell? ⟨b, o + i * 8 + j, none⟩ = some (vi (fv (m i j)))
theorem MatAt.row {w : World} {b o p : Nat} {m : Nat → Nat → Fin p} (h : MatAt w b o m) {i : Nat} (hi : i < 8) : w.rangeAt b (o + i * 8) (st fun j => fv (m i j)).toList := fun j v hv => by
  have hj : j < 8 := by
    have := (List.getElem?_eq_some_iff.1 hv).1
    rw [Array.length_toList, st_size] at this
    exact this
  rw [Array.getElem?_toList, st_get _ hj] at hv
  injection hv with hv
  rw [← hv]
  exact h i j hi hj
theorem MatAt.keep {w w' : World} {b o p : Nat} {m : Nat → Nat → Fin p} (h : MatAt w b o m) (hk : ∀ q : Addr, q.block = b → w'.cell? q = w.cell? q) : MatAt w' b o m := fun i j hi hj => (hk _ rfl).trans (h i j hi hj)

/-- a whole row into a block, at a step of a region that draws its order -/
theorem step_store_row {ops : Array Oper} {o : Oper} {a : Act} {K : Act → World → Prop} {Q : Exit → Act → World → Prop} {E : Prop} (W : World) (hgd : o.guard = none) (ty : TypeId) (x y : Operand) (ho : o.op = .store ty x y)
    (g : Nat) (cells : Array Value) (hx : a.eval x = .pointer (some ⟨g, 0, none⟩)) (hy : a.eval y = .agg cells) (t : TypeId) (old : Array Value) (hg : W.heap[g]? = some (.cells old t (0, 0))) (hi : (Try.prog.info? ty).map (·.size) = some cells.size)
    (hold : old.size = cells.size) (h1 : cells.all (·.oneCell') = true) (h : K (a.put o.dst undef) (W.setRow g cells)) :
    if Region.wanted o (yielded ops a.tmps) = true then Oper.wp Try.prog o a W K Q else E := by
  have hw : Region.wanted o (yielded ops a.tmps) = true := by simp [Region.wanted, hgd]
  rw [if_pos hw]
  exact wp_store_row ty x y ho g cells hx hy t old hg hi hold h1 h
theorem info8 (x : Nat → Int) : (Try.prog.info? 59).map (·.size) = some (st x).size := by rw [st_size]; kernel_rfl
theorem st_lit (x : Nat → Int) : st x = #[vi (x 0), vi (x 1), vi (x 2), vi (x 3), vi (x 4), vi (x 5), vi (x 6), vi (x 7)] := rfl
theorem st_zero : st (fun _ => 0) = #[vi 0, vi 0, vi 0, vi 0, vi 0, vi 0, vi 0, vi 0] := rfl
theorem below_setRow8 {B g : Nat} {w0 w : World} (hb : Below B w0 w) (hg : B ≤ g) (cs : Array Value) : Below B w0 (w.setRow g cs) :=
  ⟨hb.os, hb.tape, hb.output, by rw [setRow_size]; exact hb.size, fun i hi => (setRow_other w g i cs (by omega)).trans (hb.block i hi)⟩
/-- what the first i rows make -/
def apTo {p : Nat} [NeZero p] (m : Nat → Nat → Fin p) (X : Nat → Fin p) (i k : Nat) : Int := if k < i then fv (ap m X k) else 0
/-- .. and j places of the next one -/
def apMid {p : Nat} [NeZero p] (m : Nat → Nat → Fin p) (X : Nat → Fin p) (i j k : Nat) : Int := if k < i then fv (ap m X k) else if k = i then fv (sumT j fun l => m i l * X l) else 0
theorem apMid_start {p : Nat} [NeZero p] (m : Nat → Nat → Fin p) (X : Nat → Fin p) (i : Nat) : st (apMid m X i 0) = st (apTo m X i) := st_congr fun k _ => by
  unfold apMid apTo
  split
  · rfl
  · split
    · rw [sumT, fv_zero]
    · rfl
theorem apMid_done {p : Nat} [NeZero p] (m : Nat → Nat → Fin p) (X : Nat → Fin p) (i : Nat) : st (apMid m X i 8) = st (apTo m X (i + 1)) := st_congr fun k _ => by
  unfold apMid apTo
  by_cases h1 : k < i
  · rw [if_pos h1, if_pos (by omega)]
  · rw [if_neg h1]
    by_cases h2 : k = i
    · rw [if_pos h2, if_pos (by omega), h2]; rfl
    · rw [if_neg h2, if_neg (by omega)]
theorem apMid_step {p : Nat} [NeZero p] (m : Nat → Nat → Fin p) (X : Nat → Fin p) (i j : Nat) : st (upd (apMid m X i j) i (fv (sumT j (fun l => m i l * X l) + m i j * X j))) = st (apMid m X i (j + 1)) := st_congr fun k _ => by
  unfold upd apMid
  by_cases h2 : k = i
  · rw [if_pos h2, if_neg (by omega), if_pos h2, sumT_succ]
  · rw [if_neg h2]
    by_cases h1 : k < i
    · rw [if_pos h1, if_pos h1]
    · rw [if_neg h1, if_neg h2, if_neg h1, if_neg h2]
theorem apMid_at {p : Nat} [NeZero p] (m : Nat → Nat → Fin p) (X : Nat → Fin p) (i j : Nat) : apMid m X i j i = fv (sumT j fun l => m i l * X l) := by unfold apMid; rw [if_neg (by omega), if_pos rfl]
/-- a place of an array by a number -/
theorem index8 (x : Nat → Int) {j : Nat} (hj : j < 8) (W : World) : (Instr.index 59 (.agg #[vi (x 0), vi (x 1), vi (x 2), vi (x 3), vi (x 4), vi (x 5), vi (x 6), vi (x 7)]) (vi j)).run Try.prog W = .ok (vi (x j)) W :=
  match j, hj with
  | 0, _ => by kernel_rfl
  | 1, _ => by kernel_rfl
  | 2, _ => by kernel_rfl
  | 3, _ => by kernel_rfl
  | 4, _ => by kernel_rfl
  | 5, _ => by kernel_rfl
  | 6, _ => by kernel_rfl
  | 7, _ => by kernel_rfl
  | n + 8, h => absurd h (by omega)
theorem Blk.at8 {w : World} {g : Nat} {t : TypeId} {x : Nat → Int} (h : Blk w g t (st x)) {i : Nat} (hi : i < 8) : w.cell? ⟨g, i, none⟩ = some (vi (x i)) := by rw [h.cell, st_get _ hi]
theorem Blk.set8 {w : World} {g : Nat} {t : TypeId} {x : Nat → Int} (h : Blk w g t (st x)) {i : Nat} (hi : i < 8) (n : Int) : Blk (w.setCell ⟨g, i, none⟩ (vi n)) g t (st (upd x i n)) := by
  have := h.set_ i (vi n)
  rwa [st_set _ _ _ hi] at this
def TimesIn {p : Nat} [NeZero p] (m : Nat → Nat → Fin p) (x : Nat → Int) (w : World) (i : Nat) (t : Value) (wr : World) : Prop :=
  ∃ j : Nat, j ≤ 8 ∧ t = vi j ∧ Blk wr w.heap.size 59 (st x) ∧ Blk wr (w.heap.size + 1) 59 (st fun _ => 0) ∧ Blk wr (w.heap.size + 1 + 1) 59 (st (apMid m (fun j => el p (x j)) i j)) ∧ Below w.heap.size w wr
def TimesRel {p : Nat} [NeZero p] (m : Nat → Nat → Fin p) (x : Nat → Int) (w : World) (t : Value) (wr : World) : Prop :=
  ∃ i : Nat, i ≤ 8 ∧ t = vi i ∧ Blk wr w.heap.size 59 (st x) ∧ Blk wr (w.heap.size + 1) 59 (st fun _ => 0) ∧ Blk wr (w.heap.size + 1 + 1) 59 (st (apTo m (fun j => el p (x j)) i)) ∧ Below w.heap.size w wr
set_option maxRecDepth 100000 in
set_option maxHeartbeats 4000000 in
theorem times_any (p S b s bm om : Nat) [NeZero p] (m : Nat → Nat → Fin p) (x : Nat → Int) (hx : ∀ i, I64 (x i)) (w : World) (F : Fld w S b p) (hs0 : w.cell? ⟨s, 0, none⟩ = some (.pointer (some ⟨b, 0, none⟩))) (hm : MatAt w bm om m) :
    Calls Try.prog 33 #[.pointer (some ⟨s, 0, none⟩), .pointer (some ⟨bm, om, none⟩), .agg (st x)] w fun e w' => e = .returned (.agg (st fun i => fv (ap m (fun j => el p (x j)) i))) ∧ Below w.heap.size w w' := by
  have hp2 := F.max
  have hcb := F.c0
  have hbl := block_lt_of_cell hcb
  have hsl := block_lt_of_cell hs0
  have hml : bm < w.heap.size := block_lt_of_cell (hm 0 0 (by omega) (by omega))
  have hb1 : Below w.heap.size w (w.alloc (.cells (st x) 59)) := (Below.refl _ _).alloc (Nat.le_refl _) _
  have hb2 := hb1.alloc hb1.size (.cells (st fun _ => 0) 59)
  have hb3 := hb2.alloc hb2.size (.cells (st fun _ => 0) 59)
  have hB0 := ((Blk.new w 59 (st x)).alloc (.cells (st fun _ => 0) 59)).alloc (.cells (st fun _ => 0) 59)
  have hB1 := (Blk.new (w.alloc (.cells (st x) 59)) 59 (st fun _ => 0)).alloc (.cells (st fun _ => 0) 59)
  have hB2 := Blk.new ((w.alloc (.cells (st x) 59)).alloc (.cells (st fun _ => 0) 59)) 59 (st fun _ => 0)
  rw [World.size_alloc] at hB1 hB2
  rw [World.size_alloc] at hB2
  have hB2' : st (fun _ => 0) = st (apTo m (fun j => el p (x j)) 0) := st_congr fun i _ => by unfold apTo; rw [if_neg (by omega)]
  go_enter Try.func33, Try.ntmps33
  go_wp2
  go_loopw [14] (fun t wr => TimesRel m x w t wr) (fun t _ => 8 - (intOf t).toNat)
  case atStart => exact ⟨0, by omega, rfl, hB0, hB1, by rw [← hB2']; exact hB2, hb3⟩
  case round =>
    obtain ⟨i, hi, rfl, h0, h1, h2, hb⟩ := hrel
    clear hB0 hB1 hB2 hb1 hb2 hb3 hB2'
    by_cases hi8 : i < 8
    · have hmr : MatAt wr bm om m := hm.keep fun q hq => hb.cell (by rw [hq]; exact hml)
      have hr0 : wr.cell? ⟨bm, om + i * 8, none⟩ = some (vi (fv (m i 0))) := hmr i 0 hi8 (by omega)
      have hr1 := hmr i 1 hi8 (by omega)
      have hr2 := hmr i 2 hi8 (by omega)
      have hr3 := hmr i 3 hi8 (by omega)
      have hr4 := hmr i 4 hi8 (by omega)
      have hr5 := hmr i 5 hi8 (by omega)
      have hr6 := hmr i 6 hi8 (by omega)
      have hr7 := hmr i 7 hi8 (by omega)
      have i1 : (0 : Int) ≤ (i : Int) := by omega
      have i2 : (i : Int) < 8 := by omega
      go_wp2
      go_region_held3 (fun w' => w'.cell? ⟨bm, om + i * 8, none⟩ = some (vi (fv (m i 0))) ∧ w'.cell? ⟨bm, om + i * 8 + 1, none⟩ = some (vi (fv (m i 1))) ∧ w'.cell? ⟨bm, om + i * 8 + 2, none⟩ = some (vi (fv (m i 2))) ∧ w'.cell? ⟨bm, om + i * 8 + 3, none⟩ = some (vi (fv (m i 3))) ∧ w'.cell? ⟨bm, om + i * 8 + 4, none⟩ = some (vi (fv (m i 4))) ∧ w'.cell? ⟨bm, om + i * 8 + 5, none⟩ = some (vi (fv (m i 5))) ∧ w'.cell? ⟨bm, om + i * 8 + 6, none⟩ = some (vi (fv (m i 6))) ∧ w'.cell? ⟨bm, om + i * 8 + 7, none⟩ = some (vi (fv (m i 7)))) (first | exact ⟨hr0, hr1, hr2, hr3, hr4, hr5, hr6, hr7⟩ | go_keep) (fail)
      have hba : Below wr.heap.size wr (wr.alloc (.cells (st fun j => fv (m i j)) 59)).drew := below_drewN ((Below.refl _ _).alloc (Nat.le_refl _) _) 1
      have g0 := h0.below hba h0.lt
      have g1 := h1.below hba h1.lt
      have g2 := h2.below hba h2.lt
      have gb := hb.trans (hba.mono hb.size)
      have hix := fun (j : Nat) (hj : j < 8) (W : World) => index8 (fun j => fv (m i j)) hj W
      rw [← apMid_start] at g2
      have hnw : Blk (wr.alloc (.cells (st fun j => fv (m i j)) 59)).drew wr.heap.size 59 (st fun j => fv (m i j)) := Blk.new _ _ _
      go_wp2
      go_loopw [21] (fun t wr => TimesIn m x w i t wr) (fun t _ => 8 - (intOf t).toNat)
      case atStart => exact ⟨0, by omega, rfl, g0, g1, g2, gb⟩
      case round =>
        obtain ⟨j, hj, rfl, h0, h1, h2, hb⟩ := hrel
        by_cases hj8 : j < 8
        · have hcr := (F.below hb F.le).c0
          have hsr : wr.cell? ⟨s, 0, none⟩ = some (.pointer (some ⟨b, 0, none⟩)) := (hb.cell (p := ⟨s, 0, none⟩) hsl).trans hs0
          have cX := h0.at8 hj8
          have cO := h2.at8 hi8
          have fO := h2.frozen i
          rw [apMid_at] at cO
          have hst := apMid_step m (fun j => el p (x j)) i j
          have hxj := hx j
          have hixj := fun W => hix j hj8 W
          have hset := fun (W : World) (u : Fin p) (h : Blk W (w.heap.size + 1 + 1) 59 (st (apMid m (fun j => el p (x j)) i j))) => h.set8 hi8 (fv u)
          obtain ⟨A, hA⟩ : ∃ A, A = sumT j fun l => m i l * el p (x l) := ⟨_, rfl⟩
          rw [← hA] at cO hst
          obtain ⟨T, hT⟩ : ∃ T, T = m i j * el p (x j) := ⟨_, rfl⟩
          obtain ⟨U, hU⟩ : ∃ U, U = A + T := ⟨_, rfl⟩
          rw [← hT, ← hU] at hst
          have hmul := fun W hcW => mul_any p hp2 b (fv (m i j)) (x j) (i64_fv _ hp2) hxj W hcW
          rw [el_fv, ← hT] at hmul
          have hadd := fun W hcW => add_any p hp2 b (fv A) (fv T) (i64_fv _ hp2) (i64_fv _ hp2) W hcW
          rw [el_fv, el_fv, ← hU] at hadd
          have HMUL := Lib.hid hmul
          have HADD := Lib.hid hadd
          have HST := Lib.hid hst
          have HSET := Lib.hid hset
          have j1 : (0 : Int) ≤ (j : Int) := by omega
          have j2 : (j : Int) < 8 := by omega
          have hmx : Try.prog.follows .mixedOrders = true := by kernel_rfl
          clear hmul hadd hst hset hA hT hU hxj
          go_wp2
          refine wp_region_quiet_tail 19 hmx (by kernel_rfl) ?_
          simp only [List.take_succ_cons, List.take_zero, List.drop_succ_cons, List.drop_zero]
          repeat (quiet_step (first | (go_at_call 56; exact Calls.quiet_of (HMUL.out _ (by exact hcr))) | (go_at_call 53; exact Calls.quiet_of (HADD.out _ (by exact hcr)))))
          refine wpQuiet_nil ?_
          intro _ hw'
          obtain ⟨nq1, hw''⟩ := hw'
          subst hw''
          have q0 := (h0.drewN nq1).far (p := ⟨w.heap.size + 1 + 1, i, none⟩) (by show w.heap.size ≠ w.heap.size + 1 + 1; omega) (vi (fv U))
          have q1 := (h1.drewN nq1).far (p := ⟨w.heap.size + 1 + 1, i, none⟩) (by show w.heap.size + 1 ≠ w.heap.size + 1 + 1; omega) (vi (fv U))
          have q2 := HSET.out _ U (h2.drewN nq1)
          have qb := (below_drewN hb nq1).setCell (p := ⟨w.heap.size + 1 + 1, i, none⟩) (by show w.heap.size ≤ w.heap.size + 1 + 1; omega) (vi (fv U))
          rw [HST.out] at q2
          go_wp2
          go_roundw
          case rel => exact ⟨j + 1, by omega, by go_num, q0, q1, q2, qb⟩
          case measure => simp [intOf]; omega
        · have ej : j = 8 := by omega
          rw [ej, apMid_done] at h2
          have t1 : ¬ (j : Int) < 8 := by omega
          clear ej
          go_wp2
          go_roundw
          case rel => exact ⟨i + 1, by omega, by go_num, h0, h1, h2, hb⟩
          case measure => simp [intOf]; omega
    · have ei : i = 8 := by omega
      have hres : st (apTo m (fun j => el p (x j)) i) = st fun k => fv (ap m (fun j => el p (x j)) k) := st_congr fun k hk => by unfold apTo; rw [if_pos (by omega)]
      rw [hres] at h2
      obtain ⟨R, hR⟩ : ∃ R : Nat → Int, R = fun k => fv (ap m (fun j => el p (x j)) k) := ⟨_, rfl⟩
      rw [← hR] at h2
      have HR := Lib.hid hR
      clear hR
      have t1 : ¬ (i : Int) < 8 := by omega
      clear ei hres
      go_wp2_with (first | (refine wpList_load_row rfl 59 _ rfl (w.heap.size + 1 + 1) rfl _ _ _ _ h2 Try.underlying59 rfl (info8 _) ?_) | (refine wpList_store_row rfl 59 _ _ rfl (w.heap.size + 1) _ rfl rfl _ _ h1 (info8 _) (by rw [st_size, st_size]) (st_one _) ?_))
      have hB1 : Blk (wr.setRow (w.heap.size + 1) (st R)) (w.heap.size + 1) 59 (st R) := setRow_heap _ _ _ _ _ _ h1
      refine bodyPost_ret (v := .agg (st R)) (results_cell_row (P := Try.prog) (by rfl) _ _ (w.heap.size + 1) _ _ _ _ (by rfl) hB1 Try.underlying59 rfl (info8 _)) rfl ⟨by rw [HR.out], below_setRow8 hb (by omega) _⟩
end Go.Proofs.Ytabhndfdioimcaa
