/- The walk of sponge.New. -/
import Derived.Test.YtabhndfdioimcaaUn
import Derived.Test.YtabhndfdioimcaaSg1
import Derived.IntWalk
import Derived.BigQuiet
set_option linter.unusedVariables false
namespace Go.Proofs.Ytabhndfdioimcaa
open Go.RowKit Zp

/-- the cells of a sponge -/
def spL (b : Nat) (k z : Int) (m o : Nat → Int) (i : Nat) : Value := if i = 0 then .pointer (some ⟨b, 0, none⟩) else if i = 1 then vi k else if i = 2 then vi z else if i < 67 then vi (m (i - 3)) else vi (o (i - 67))
def spC (b : Nat) (k z : Int) (m o : Nat → Int) : Array Value := ((List.range 131).map (spL b k z m o)).toArray
section
variable (b : Nat) (k z : Int) (m o : Nat → Int)
theorem spC_size : (spC b k z m o).size = 131 := by simp [spC]
theorem spC_get {i : Nat} (h : i < 131) : (spC b k z m o)[i]? = some (spL b k z m o i) := by simp [spC, h]
theorem spC_set {k' z' : Int} {m' o' : Nat → Int} (i : Nat) (v : Value) (h : ∀ j, j < 131 → spL b k' z' m' o' j = if j = i then v else spL b k z m o j) : (spC b k z m o).setIfInBounds i v = spC b k' z' m' o' := by
  apply Array.ext_getElem?
  intro j
  rw [Array.getElem?_setIfInBounds]
  by_cases hj : j < 131
  · rw [spC_get _ _ _ _ _ hj, spC_get _ _ _ _ _ hj, spC_size, h j hj]
    by_cases e : i = j
    · rw [if_pos e, if_pos (by omega), if_pos e.symm]
    · rw [if_neg e, if_neg (fun e' => e e'.symm)]
  · have h1 : (spC b k' z' m' o')[j]? = none := Array.getElem?_eq_none (by rw [spC_size]; omega)
    have h2 : (spC b k z m o)[j]? = none := Array.getElem?_eq_none (by rw [spC_size]; omega)
    rw [h1, h2, spC_size]
    by_cases e : i = j
    · rw [if_pos e, if_neg (by omega)]
    · rw [if_neg e]
theorem spC_k (k' : Int) : (spC b k z m o).setIfInBounds 1 (vi k') = spC b k' z m o := spC_set b k z m o 1 _ fun j hj => by
  unfold spL
  by_cases h0 : j = 0
  · simp [h0]
  · by_cases h1 : j = 1
    · simp [h1]
    · simp [h0, h1]
theorem spC_z (z' : Int) : (spC b k z m o).setIfInBounds 2 (vi z') = spC b k z' m o := spC_set b k z m o 2 _ fun j hj => by
  unfold spL
  by_cases h0 : j = 0
  · simp [h0]
  · by_cases h1 : j = 1
    · simp [h1]
    · by_cases h2 : j = 2
      · simp [h2]
      · simp [h0, h1, h2]
theorem spC_m (i : Nat) (x : Int) (hi : i < 64) : (spC b k z m o).setIfInBounds (3 + i) (vi x) = spC b k z (upd m i x) o := spC_set b k z m o _ _ fun j hj => by
  unfold spL upd
  by_cases h : j = 3 + i
  · have e0 : ¬ j = 0 := by omega
    have e1 : ¬ j = 1 := by omega
    have e2 : ¬ j = 2 := by omega
    have e3 : j < 67 := by omega
    have e4 : j - 3 = i := by omega
    simp only [if_neg e0, if_neg e1, if_neg e2, if_pos e3, if_pos e4, if_pos h]
  · by_cases e0 : j = 0
    · simp only [if_pos e0, if_neg h]
    · by_cases e1 : j = 1
      · simp only [if_neg e0, if_pos e1, if_neg h]
      · by_cases e2 : j = 2
        · simp only [if_neg e0, if_neg e1, if_pos e2, if_neg h]
        · by_cases e3 : j < 67
          · have e4 : ¬ j - 3 = i := by omega
            simp only [if_neg e0, if_neg e1, if_neg e2, if_pos e3, if_neg e4, if_neg h]
          · simp only [if_neg e0, if_neg e1, if_neg e2, if_neg e3, if_neg h]
end
/-- a sponge that lies in a block of its own -/
def SpBlk (w : World) (s b : Nat) (k z : Int) (m o : Nat → Int) : Prop := Blk w s 64 (spC b k z m o)
section
variable {w : World} {s b : Nat} {k z : Int} {m o : Nat → Int}
theorem SpBlk.c (h : SpBlk w s b k z m o) {i : Nat} (hi : i < 131) : w.cell? ⟨s, i, none⟩ = some (spL b k z m o i) := by rw [Blk.cell h, spC_get _ _ _ _ _ hi]
theorem SpBlk.c0 (h : SpBlk w s b k z m o) : w.cell? ⟨s, 0, none⟩ = some (.pointer (some ⟨b, 0, none⟩)) := h.c (by omega)
theorem SpBlk.c1 (h : SpBlk w s b k z m o) : w.cell? ⟨s, 1, none⟩ = some (vi k) := h.c (by omega)
theorem SpBlk.c2 (h : SpBlk w s b k z m o) : w.cell? ⟨s, 2, none⟩ = some (vi z) := h.c (by omega)
theorem SpBlk.cm (h : SpBlk w s b k z m o) {i : Nat} (hi : i < 64) : w.cell? ⟨s, 3 + i, none⟩ = some (vi (m i)) := by
  rw [h.c (by omega)]; unfold spL; rw [if_neg (by omega), if_neg (by omega), if_neg (by omega), if_pos (by omega), show 3 + i - 3 = i by omega]
theorem SpBlk.co (h : SpBlk w s b k z m o) {i : Nat} (hi : i < 64) : w.cell? ⟨s, 67 + i, none⟩ = some (vi (o i)) := by
  rw [h.c (by omega)]; unfold spL; rw [if_neg (by omega), if_neg (by omega), if_neg (by omega), if_neg (by omega), show 67 + i - 67 = i by omega]
theorem SpBlk.setk (h : SpBlk w s b k z m o) (k' : Int) : SpBlk (w.setCell ⟨s, 1, none⟩ (vi k')) s b k' z m o := by
  have := Blk.set_ h 1 (vi k')
  rwa [spC_k] at this
theorem SpBlk.setz (h : SpBlk w s b k z m o) (z' : Int) : SpBlk (w.setCell ⟨s, 2, none⟩ (vi z')) s b k z' m o := by
  have := Blk.set_ h 2 (vi z')
  rwa [spC_z] at this
theorem SpBlk.setm (h : SpBlk w s b k z m o) {i : Nat} (hi : i < 64) (x : Int) : SpBlk (w.setCell ⟨s, 3 + i, none⟩ (vi x)) s b k z (upd m i x) o := by
  have := Blk.set_ h (3 + i) (vi x)
  rwa [spC_m _ _ _ _ _ _ _ hi] at this
theorem SpBlk.drewN (h : SpBlk w s b k z m o) (n : Nat) : SpBlk (w.drewN n) s b k z m o := h
end
theorem spC_new (b : Nat) (w : World) : SpBlk (w.alloc (.cells (spC b 2 0 (fun _ => 0) (fun _ => 0)) 64)) w.heap.size b 2 0 (fun _ => 0) (fun _ => 0) := Blk.new _ _ _
/-- a gcd that a power must come to -/
theorem gcd_pred {p : Nat} (hp : 1 ≤ p) : Nat.gcd p (p - 1) = 1 := by
  have h : Nat.gcd p (p - 1) ∣ 1 := by
    have h1 := Nat.gcd_dvd_left p (p - 1)
    have h2 := Nat.gcd_dvd_right p (p - 1)
    have := Nat.dvd_sub h1 h2
    rwa [show p - (p - 1) = 1 by omega] at this
  exact Nat.dvd_one.1 h
theorem Euc.ends {a n : Nat} : ∀ (s : Nat) {g : Bool} {X Y r : Nat}, Euc a n g X Y r s → ∃ (g' : Bool) (X' Y' r' : Nat), Euc a n g' X' Y' r' 0 := fun s => by
  induction s using Nat.strongRecOn with
  | ind s ih =>
    intro g X Y r h
    rcases Nat.eq_zero_or_pos s with e | e
    · subst e; exact ⟨_, _, _, _, h⟩
    · exact ih _ (Nat.mod_lt _ e) (h.step e)
theorem inv_ex {a n : Nat} (ha : 0 < a) (hn : 0 < n) (hg : Nat.gcd a n = 1) : ∃ m : Nat, m < n ∧ ∃ t : Int, (m : Int) * a = 1 + t * (n : Int) := by
  obtain ⟨g, X, Y, r, E⟩ := Euc.ends n (Euc.start a n ha)
  obtain ⟨h0, h1, t, ht⟩ := E.done hg hn
  exact ⟨(sgnd g X % (n : Int)).toNat, by omega, t, by rw [Int.toNat_of_nonneg h0]; exact ht⟩
theorem inv_le {a n m k : Nat} (hg : Nat.gcd a n = 1) (hm : m < n) (hmk : k ≤ m) {t u : Int} (h : (m : Int) * a = 1 + t * (n : Int)) (h' : (k : Int) * a = 1 + u * (n : Int)) : m = k := by
  have e : (((m - k) * a : Nat) : Int) = (t - u) * (n : Int) := by
    rw [Int.natCast_mul, Int.ofNat_sub hmk, Int.sub_mul, h, h', Int.sub_mul]; omega
  have d : n ∣ (m - k) * a := Int.natCast_dvd_natCast.1 ⟨t - u, by rw [e, Int.mul_comm]⟩
  have d2 : n ∣ m - k := Nat.Coprime.dvd_of_dvd_mul_right (show Nat.gcd n a = 1 by rw [Nat.gcd_comm]; exact hg) d
  have := Nat.eq_zero_of_dvd_of_lt d2 (by omega)
  omega
theorem inv_uni {a n m k : Nat} (hg : Nat.gcd a n = 1) (hm : m < n) (hk : k < n) (h : ∃ t : Int, (m : Int) * a = 1 + t * (n : Int)) (h' : ∃ t : Int, (k : Int) * a = 1 + t * (n : Int)) : m = k := by
  obtain ⟨t, h⟩ := h
  obtain ⟨u, h'⟩ := h'
  rcases Nat.le_total k m with e | e
  · exact inv_le hg hm e h h'
  · exact (inv_le hg hk e h' h).symm
/-- the matrix, t places of it -/
def mfill (p : Nat) [NeZero p] (n t : Nat) : Int := if t < n then fv (cauchy p (t / 8) (t % 8)) else 0
theorem mfill_step (p : Nat) [NeZero p] {i j : Nat} (hj : j < 8) : upd (mfill p (i * 8 + j)) (i * 8 + j) (fv (cauchy p i j)) = mfill p (i * 8 + (j + 1)) := by
  funext t
  unfold upd mfill
  by_cases h : t = i * 8 + j
  · rw [if_pos h, if_pos (by omega), h, show (i * 8 + j) / 8 = i by omega, show (i * 8 + j) % 8 = j by omega]
  · rw [if_neg h]
    by_cases h1 : t < i * 8 + j
    · rw [if_pos h1, if_pos (by omega)]
    · rw [if_neg h1, if_neg (by omega)]
/-- a sponge, as New makes it -/
structure Spg {p : Nat} [NeZero p] (w : World) (s b k z : Nat) (oo : Nat → Nat → Fin p) : Prop where
  c0 : w.cell? ⟨s, 0, none⟩ = some (.pointer (some ⟨b, 0, none⟩))
  c1 : w.cell? ⟨s, 1, none⟩ = some (vi k)
  c2 : w.cell? ⟨s, 2, none⟩ = some (vi z)
  k2 : 2 ≤ k
  kp : k ≤ p
  least : ∀ j, 2 ≤ j → j < k → Nat.gcd j (p - 1) ≠ 1
  cop : Nat.gcd k (p - 1) = 1
  zp : z < p - 1
  root : ∃ t : Int, (z : Int) * k = 1 + t * ((p - 1 : Nat) : Int)
  mat : MatAt w s 3 (cauchy p)
  oth : MatAt w s 67 oo
  undo : ∃ mm, Undo (cauchy p) mm oo 8
theorem SpBlk.range {p : Nat} [NeZero p] {w : World} {s b : Nat} {k z : Int} {o : Nat → Int} (h : SpBlk w s b k z (mfill p 64) o) : w.rangeAt s 3 (mt (cauchy p)).toList := fun j v hv => by
  have hj : j < 64 := by
    have := (List.getElem?_eq_some_iff.1 hv).1
    rwa [Array.length_toList, mt_size] at this
  rw [Array.getElem?_toList, mt_get' _ hj] at hv
  injection hv with hv
  rw [← hv, h.cm hj]
  unfold mfill
  rw [if_pos hj]
theorem SpBlk.there67 {w : World} {s b : Nat} {k z : Int} {m o : Nat → Int} (h : SpBlk w s b k z m o) : w.there s 67 64 := fun j hj => ⟨by rw [h.co hj]; rfl, Blk.frozen h _⟩
theorem spg_of {p : Nat} [NeZero p] {w : World} {s b k z : Nat} (h : SpBlk w s b k z (mfill p 64) (fun _ => 0)) {mm oo : Nat → Nat → Fin p} (hu : Undo (cauchy p) mm oo 8) (k2 : 2 ≤ k) (kp : k ≤ p) (least : ∀ j, 2 ≤ j → j < k → Nat.gcd j (p - 1) ≠ 1) (cop : Nat.gcd k (p - 1) = 1) (zp : z < p - 1) (root : ∃ t : Int, (z : Int) * k = 1 + t * ((p - 1 : Nat) : Int)) :
    Spg (w.setCells s 67 (mt oo).toList) s b k z oo := by
  have hl : (mt oo).toList.length = 64 := by rw [Array.length_toList, mt_size]
  have low : ∀ i, i < 67 → (w.setCells s 67 (mt oo).toList).cell? ⟨s, i, none⟩ = w.cell? ⟨s, i, none⟩ := fun i hi => World.cell?_setCells_out s _ 67 w ⟨s, i, none⟩ (fun _ _ => .inl hi)
  refine ⟨by rw [low 0 (by omega)]; exact h.c0, by rw [low 1 (by omega)]; exact h.c1, by rw [low 2 (by omega)]; exact h.c2, k2, kp, least, cop, zp, root, fun i j hi hj => ?_, fun i j hi hj => ?_, ⟨mm, hu⟩⟩
  · rw [low _ (by omega)]
    have := h.cm (i := i * 8 + j) (by omega)
    rw [← Nat.add_assoc] at this
    rw [this]
    unfold mfill
    rw [if_pos (by omega), show (i * 8 + j) / 8 = i by omega, show (i * 8 + j) % 8 = j by omega]
  · have := World.rangeAt_setCells_same w s 67 (mt oo).toList (by rw [hl]; exact h.there67) (i * 8 + j) (vi (fv (oo i j))) (by rw [Array.getElem?_toList, mt_get _ hi hj])
    rwa [← Nat.add_assoc] at this
theorem wpList_load_mt {p : Nat} {ops : Array Oper} {rest : List Oper} {op : Oper} {a : Act} {w : World} {Q : Exit → Act → World → Prop} (hgd : op.guard = none) (x : Operand) (ho : op.op = .load 62 x)
    (b o : Nat) (hx : a.eval x = .pointer (some ⟨b, o, none⟩)) (m : Nat → Nat → Fin p) (hc : w.rangeAt b o (mt m).toList) (h : wpList Try.prog ops Q rest (a.put op.dst (.agg (mt m))) w) : wpList Try.prog ops Q (op :: rest) a w := by
  refine wpList_load_mid hgd 62 x ho b o hx _ _ hc Try.underlying62 rfl (by rw [Array.length_toList]; exact info64 m) ?_
  rw [Array.toArray_toList]
  exact h
set_option maxRecDepth 100000 in
set_option maxHeartbeats 2000000 in
theorem spnew_any (p S b : Nat) [NeZero p] (h23 : 23 ≤ p) (w : World) (F : Fld w S b p) :
    Calls Try.prog 30 #[.pointer (some ⟨b, 0, none⟩)] w fun e w' => e = .returned (.tuple #[.pointer (some ⟨w.heap.size, 0, none⟩), .nilIface]) ∧ (∃ (k z : Nat) (oo : Nat → Nat → Fin p), Spg w' w.heap.size b k z oo) ∧ Below w.heap.size w w' := by
  have hp := F.prime
  have hp1 := F.two
  have hp2 := F.max
  have hcb := F.c0
  have hbl := block_lt_of_cell hcb
  have HP := Lib.hid hp
  have tq : ((p : Int) < 23) = False := by simp; omega
  clear hp
  go_enter Try.func30, Try.ntmps30
  obtain ⟨q, hq⟩ : ∃ q, q = p - 1 := ⟨_, rfl⟩
  have hqw : IntKind.i64.wrap ((p : Int) - 1) = (q : Int) := by
    have e : (p : Int) - 1 = (q : Int) := by omega
    rw [e]
    exact IntWalk.i64_in _ (by omega)
  have hg0 : Nat.gcd p q = 1 := by rw [hq]; exact gcd_pred (by omega)
  have HG0 := Lib.hid hg0
  have HQ := Lib.hid hq
  have HQW := Lib.hid hqw
  have hz : ((Try.zeroCells64.setIfInBounds 0 (Value.pointer (some ⟨b, 0, none⟩))).setIfInBounds 1 (Value.int IntKind.i64 2)) = spC b 2 0 (fun _ => 0) (fun _ => 0) := by kernel_rfl
  have HZ := Lib.hid hz
  have hW := spC_new b w
  have hbW : Below w.heap.size w (w.alloc (.cells (spC b 2 0 (fun _ => 0) (fun _ => 0)) 64)) := (Below.refl _ _).alloc (Nat.le_refl _) _
  have HW := Lib.hid hW
  have HBW := Lib.hid hbW
  clear hz hW hbW hg0 hq hqw
  go_wp2_with (go_at_call 43; refine (p_any p b _ (by exact hcb)).mono ?_; rintro _ _ ⟨rfl, rfl⟩)
  rw [HZ.out]
  have hW := HW.out
  have hbW := HBW.out
  clear HW HBW HZ
  generalize World.alloc _ _ = W0 at hW hbW
  go_loopw [14] (fun _ wr => ∃ k : Nat, 2 ≤ k ∧ k ≤ p ∧ (∀ j, 2 ≤ j → j < k → Nat.gcd j q ≠ 1) ∧ SpBlk wr w.heap.size b k 0 (fun _ => 0) (fun _ => 0) ∧ Below w.heap.size w wr) (fun _ wr => p - (intOf ((wr.cell? ⟨w.heap.size, 1, none⟩).getD undef)).toNat)
  case atStart => exact ⟨2, by omega, by omega, fun j h1 h2 => by omega, hW, hbW⟩
  case round =>
    clear hW hbW
    obtain ⟨k, hk2, hkp, hkl, hB, hb⟩ := hrel
    have hc1 := hB.c1
    have hcr := (F.below hb F.le).c0
    have hfr := Blk.frozen hB 1
    have hgc := fun W => sgcd_any k q (by omega) (by have := HQ.out; omega) W
    have HGC := Lib.hid hgc
    have HKL := Lib.hid hkl
    clear hgc hkl
    have hqw := HQW.out
    by_cases hg : Nat.gcd k q = 1
    · have tg : (((Nat.gcd k q : Nat) : Int) != 1) = false := by rw [hg]; rfl
      have HGK := Lib.hid hg
      clear hg
      go_wp2
      go_quiet (first | (go_at_call 43; exact Calls.quiet_of_same ((p_any p b _ (by exact hcr)).mono fun e w' h => ⟨h.1, h.2.symm⟩)) | (go_at_call 62; exact Calls.quiet_of (HGC.out _)))
      go_wp2
      obtain ⟨z, hz1, hz2⟩ := inv_ex (a := k) (n := q) (by omega) (by have := HQ.out; omega) HGK.out
      have hinv : ∀ W, Calls Try.prog 63 #[vi k, vi q] W fun e w' => e = .returned (vi z) ∧ w' = W := fun W => (sinv_any k q (by omega) (by omega) (by have := HQ.out; omega) (by have := HQ.out; omega) HGK.out W).mono fun e w' h => by
        obtain ⟨⟨m, h1, h2, h3⟩, h4⟩ := h
        rw [inv_uni HGK.out h2 hz1 h3 hz2] at h1
        exact ⟨h1, h4.symm⟩
      have HINV := Lib.hid hinv
      have HZ1 := Lib.hid hz1
      have HZ2 := Lib.hid hz2
      have hB' := hB.drewN nq
      have hb' := below_drewN hb nq
      clear hc1 hcr hfr hB hb
      generalize World.drewN wr nq = W1 at hB' hb'
      have hc1 := hB'.c1
      have hc2 := hB'.c2
      have hf2 := Blk.frozen hB' 2
      have hcr := (F.below hb' F.le).c0
      have HBK := Lib.hid hB'
      have HBL := Lib.hid hb'
      have hmx : Try.prog.follows .mixedOrders = true := by kernel_rfl
      clear hinv hz1 hz2 hB' hb' tg
      refine wp_region_quiet_tail 9 hmx (by kernel_rfl) ?_
      simp only [List.take_succ_cons, List.take_zero, List.drop_succ_cons, List.drop_zero]
      repeat (quiet_step (first | (go_at_call 43; exact Calls.quiet_of_same ((p_any p b _ (by exact hcr)).mono fun e w' h => ⟨h.1, h.2.symm⟩)) | (go_at_call 63; exact Calls.quiet_of_same (HINV.out _))))
      refine wpQuiet_nil ?_
      intro _ hw'
      obtain ⟨nq1, hw''⟩ := hw'
      subst hw''
      have HB1 := Lib.hid ((HBK.out.drewN nq1).setz (z : Int))
      have HB2 := Lib.hid ((below_drewN HBL.out nq1).setCell (p := ⟨w.heap.size, 2, none⟩) (Nat.le_refl _) (vi (z : Int)))
      go_wp2
      clear hf2 hc2 hc1 hcr HBK HBL hqw HGC HINV
      have hB1 := HB1.out
      have hb2 := HB2.out
      clear HB1 HB2
      generalize World.setCell _ _ _ = W2 at hB1 hb2
      go_loopw [41] (fun t wr => ∃ i : Nat, i ≤ 8 ∧ t = vi i ∧ SpBlk wr w.heap.size b k z (mfill p (i * 8 + 0)) (fun _ => 0) ∧ Below w.heap.size w wr) (fun t _ => 8 - (intOf t).toNat)
      case atStart =>
        refine ⟨0, by omega, rfl, ?_, hb2⟩
        have e : mfill p (0 * 8 + 0) = fun _ => 0 := by funext t; unfold mfill; rw [if_neg (by omega)]
        rw [e]
        exact hB1
      case round =>
        clear hB1 hb2
        obtain ⟨i, hi, rfl, hB, hb⟩ := hrel
        by_cases hi8 : i < 8
        · have i1 : (0 : Int) ≤ (i : Int) := by omega
          have i2 : (i : Int) < 8 := by omega
          have HB := Lib.hid hB
          have HBB := Lib.hid hb
          clear hB hb
          go_wp2
          go_loopw [44] (fun t wr => ∃ j : Nat, j ≤ 8 ∧ t = vi j ∧ SpBlk wr w.heap.size b k z (mfill p (i * 8 + j)) (fun _ => 0) ∧ Below w.heap.size w wr) (fun t _ => 8 - (intOf t).toNat)
          case atStart => exact ⟨0, by omega, rfl, HB.out, HBB.out⟩
          case round =>
            clear HB HBB
            obtain ⟨j, hj, rfl, hB, hb⟩ := hrel
            by_cases hj8 : j < 8
            · have j1 : (0 : Int) ≤ (j : Int) := by omega
              have j2 : (j : Int) < 8 := by omega
              have hcr := (F.below hb F.le).c0
              have hcm := hB.cm (i := i * 8 + j) (by omega)
              rw [← Nat.add_assoc] at hcm
              have hfm := Blk.frozen hB (3 + i * 8 + j)
              have hiv := fun W hcW => inv_any p hp1 hp2 b ((i : Int) + j + 8) (by constructor <;> omega) W hcW
              have e1 : el p ((i : Int) + j + 8) = el p ((i + j + 8 : Nat) : Int) := by congr 1
              rw [e1] at hiv
              obtain ⟨X, hX⟩ : ∃ X, X = cauchy p i j := ⟨_, rfl⟩
              have hX' : Zp.inv (el p ((i + j + 8 : Nat) : Int)) = X := by rw [hX]; rfl
              rw [hX'] at hiv
              have HIV := Lib.hid hiv
              have hnw : ∀ W, SpBlk W w.heap.size b k z (mfill p (i * 8 + j)) (fun _ => 0) → SpBlk (W.setCell ⟨w.heap.size, 3 + i * 8 + j, none⟩ (vi (fv X))) w.heap.size b k z (mfill p (i * 8 + (j + 1))) (fun _ => 0) := fun W h => by
                have := h.setm (i := i * 8 + j) (by omega) (fv X)
                rw [hX, mfill_step p hj8, ← hX, ← Nat.add_assoc] at this
                exact this
              have HNW := Lib.hid hnw
              have HB := Lib.hid hB
              have HBB := Lib.hid hb
              have w1 : IntKind.i64.wrap ((i : Int) + j) = (i : Int) + j := IntWalk.i64_in _ (by omega)
              have w2 : IntKind.i64.wrap ((i : Int) + j + 8) = (i : Int) + j + 8 := IntWalk.i64_in _ (by omega)
              clear hiv hX hX' e1 hnw hB hb
              go_wp2
              refine wp_region_quiet_tail 12 hmx (by kernel_rfl) ?_
              simp only [List.take_succ_cons, List.take_zero, List.drop_succ_cons, List.drop_zero]
              repeat (quiet_step ((go_at_call 64; exact Calls.quiet_of_same ((HIV.out _ (by exact hcr)).mono fun e w' h => ⟨h.1, h.2.symm⟩))))
              refine wpQuiet_nil ?_
              intro _ hw'
              obtain ⟨nq2, hw''⟩ := hw'
              subst hw''
              have HB3 := Lib.hid (HNW.out _ (HB.out.drewN nq2))
              have HB4 := Lib.hid ((below_drewN HBB.out nq2).setCell (p := ⟨w.heap.size, 3 + i * 8 + j, none⟩) (Nat.le_refl _) (vi (fv X)))
              go_wp2
              clear w1 w2 hcr hcm hfm
              go_roundw
              case rel => exact ⟨j + 1, by omega, by go_num, HB3.out, HB4.out⟩
              case measure => simp [intOf]; omega
            · have ej : j = 8 := by omega
              subst ej
              have HB3 := Lib.hid hB
              have HB4 := Lib.hid hb
              clear hB hb
              go_wp2
              go_roundw
              case rel => exact ⟨i + 1, by omega, by go_num, by rw [show (i + 1) * 8 + 0 = i * 8 + 8 by omega]; exact HB3.out, HB4.out⟩
              case measure => simp [intOf]; omega
        · have ei : i = 8 := by omega
          subst ei
          have HB := Lib.hid hB
          have HBB := Lib.hid hb
          clear hB hb
          have hMi : Inj (cauchy p) := cauchy_inj HP.out h23
          have hU := undone_any p S b (cauchy p) hMi wr (F.below HBB.out F.le)
          have HU := Lib.hid hU
          have HR := Lib.hid (HB.out.range)
          have HLT := Lib.hid (Blk.lt HB.out)
          have HMI := Lib.hid hMi
          clear hMi hU
          go_wp2_with (first | (refine wpList_load_mt rfl _ rfl w.heap.size 3 rfl (cauchy p) HR.out ?_) | (go_at_call 65; refine (HU.out).mono ?_; rintro _ w3 ⟨⟨mm, oo, hun, rfl⟩, hb3⟩; have HU3 := Lib.hid hun; have HB3 := Lib.hid (Blk.below HB.out hb3 HLT.out); have hth := SpBlk.there67 HB3.out; have HB4 := Lib.hid hb3; clear hun hb3) | (refine wpList_store_mid rfl 62 _ _ rfl w.heap.size 67 (mt oo) rfl rfl (by rw [mt_size]; exact hth) (info64 _) (mt_one _) ?_))
          go_ret2
          have hgk := HGK.out
          have hkl := HKL.out
          have hz1 := HZ1.out
          have hz2 := HZ2.out
          rw [HQ.out] at hgk hkl hz1 hz2
          exact ⟨rfl, ⟨k, z, oo, spg_of HB3.out HU3.out hk2 hkp hkl hgk hz1 hz2⟩, below_setCells w.heap.size (Nat.le_refl _) _ _ _ (HBB.out.trans (HB4.out.mono HBB.out.size))⟩
    · have tg : (((Nat.gcd k q : Nat) : Int) != 1) = true := by rw [bne_iff_ne]; omega
      have hkp' : k < p := by
        rcases Nat.lt_or_ge k p with h | h
        · exact h
        · have : k = p := by omega
          exact absurd (this ▸ HG0.out) hg
      have HGK := Lib.hid hg
      clear hg
      have hs1 := hB.setk ((k + 1 : Nat) : Int)
      have hsb := hb.setCell (p := ⟨w.heap.size, 1, none⟩) (Nat.le_refl _) (vi ((k + 1 : Nat) : Int))
      have HS := Lib.hid hs1
      have HSB := Lib.hid hsb
      clear hs1 hsb
      go_wp2
      go_quiet (first | (go_at_call 43; exact Calls.quiet_of_same ((p_any p b _ (by exact hcr)).mono fun e w' h => ⟨h.1, h.2.symm⟩)) | (go_at_call 62; exact Calls.quiet_of (HGC.out _)))
      go_wp2
      have hnew := (hB.drewN nq).setk ((k : Int) + 1)
      have hm1 := hnew.c1
      refine ⟨⟨k + 1, by omega, by omega, fun j h1 h2 => ?_, hnew, (below_drewN hb nq).setCell (p := ⟨w.heap.size, 1, none⟩) (Nat.le_refl _) _⟩, ?_⟩
      · rcases Nat.lt_or_ge j k with h | h
        · exact HKL.out j h1 h
        · have : j = k := by omega
          rw [this]; exact HGK.out
      · rw [hm1, hc1]
        simp [intOf]
        omega
end Go.Proofs.Ytabhndfdioimcaa
