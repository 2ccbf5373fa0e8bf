/- A bundle of texts: Li, Pe, Pw, Ints, Pd, Hs, Eval, Ha. -/
import Derived.Test.YteceghbjjnknbaaGreatQ03
import Derived.Test.YteceghbjjnknbaaGreatQ02
import Derived.Deep.QuietTactic
import Derived.BigQuiet
import Derived.Outline
import Derived.WalkLawsBesides
import Derived.WalkSpells
import Derived.RangeFuncNested
import Derived.RangeFuncBound
import Derived.RangeFuncCalls
import Derived.RangeFuncLeaves
import Derived.RangeFuncBox
import Derived.Shelf.Abstract
import Derived.Shelf.RegionOpen
import Derived.WalkKit
import Derived.OwnWalkIn
import Derived.TacticsInMore
import Derived.LoopNIn
import Derived.LoopIn
set_option linter.unusedVariables false
set_option linter.unusedSimpArgs false
namespace Go.Proofs.YteceghbjjnknbaaGreat
open Go.RowKit Zp
theorem sl_of_blk {w : World} {g : Nat} {t : TypeId} {R : Nat → Int} (h : Blk w g t (st R)) : SL w (some ⟨g, 0, none⟩) ((List.range 8).map R) := ⟨by simp, fun _ => ⟨_, rfl, h.lt, fun j u hu => by
  have hj : j < 8 := by
    have := (List.getElem?_eq_some_iff.1 hu).1
    simpa using this
  have e : w.cell? (Addr.add ⟨g, 0, none⟩ j) = w.cell? ⟨g, j, none⟩ := by rw [Addr.add_mid, Nat.zero_add]
  rw [e, h.at8 hj]
  simp [hj] at hu
  rw [← hu]⟩⟩
section
variable {p : Nat} [NeZero p]
end
end Go.Proofs.YteceghbjjnknbaaGreat

namespace Go.Proofs.YteceghbjjnknbaaGreat
open Go.RowKit Zp
section
variable {p : Nat} [NeZero p]
def cstT (p : Nat) [NeZero p] (r i : Nat) : Fin p := pw (el p ((8 * r + i + 1 : Nat) : Int)) 5 + el p 3
def permT (k : Nat) (v : Nat → Fin p) : Nat → Nat → Fin p
  | 0 => v
  | r + 1 => ap (cauchy p) fun i => pw (permT k v r i + cstT p r i) k
def permI (k : Nat) (x : Nat → Int) (r j : Nat) : Int := if r = 0 then x j else fv (permT k (fun j => el p (x j)) r j)
theorem permI_zero (k : Nat) (x : Nat → Int) : permI (p := p) k x 0 = x := by funext j; simp [permI]
theorem permI_el (k : Nat) (x : Nat → Int) (r j : Nat) : el p (permI (p := p) k x r j) = permT k (fun j => el p (x j)) r j := by
  unfold permI
  by_cases h : r = 0
  · subst h; rw [if_pos rfl]; rfl
  · rw [if_neg h, el_fv]
theorem permI_i64 (hp2 : p ≤ 2147483647) (k : Nat) {x : Nat → Int} (hx : ∀ i, I64 (x i)) (r j : Nat) : I64 (permI (p := p) k x r j) := by
  unfold permI
  split
  · exact hx j
  · exact i64_fv _ hp2
def midI (k : Nat) (x : Nat → Int) (r i j : Nat) : Int := if j < i then fv (pw (permT (p := p) k (fun j => el p (x j)) r j + cstT p r j) k) else permI (p := p) k x r j
theorem midI_zero (k : Nat) (x : Nat → Int) (r : Nat) : midI (p := p) k x r 0 = permI (p := p) k x r := by funext j; simp [midI]
theorem midI_at (k : Nat) (x : Nat → Int) (r i : Nat) : midI (p := p) k x r i i = permI (p := p) k x r i := by simp [midI]
theorem midI_step (k : Nat) (x : Nat → Int) (r i : Nat) : st (upd (midI (p := p) k x r i) i (fv (pw (permT (p := p) k (fun j => el p (x j)) r i + cstT p r i) k))) = st (midI (p := p) k x r (i + 1)) := st_congr fun j _ => by
  unfold upd midI
  by_cases h : j = i
  · subst h; rw [if_pos rfl, if_pos (by omega)]
  · rw [if_neg h]
    by_cases h1 : j < i
    · rw [if_pos h1, if_pos (by omega)]
    · rw [if_neg h1, if_neg (by omega)]
theorem midI_i64 (hp2 : p ≤ 2147483647) (k : Nat) {x : Nat → Int} (hx : ∀ i, I64 (x i)) (r i j : Nat) : I64 (midI (p := p) k x r i j) := by
  unfold midI
  split
  · exact i64_fv _ hp2
  · exact permI_i64 hp2 k hx r j
theorem midI_done (k : Nat) (x : Nat → Int) (r : Nat) : st (fun a => fv (ap (cauchy p) (fun j => el p (midI (p := p) k x r 8 j)) a)) = st (permI (p := p) k x (r + 1)) := st_congr fun a _ => by
  unfold permI
  rw [if_neg (by omega)]
  show fv (ap (cauchy p) _ a) = fv (ap (cauchy p) _ a)
  congr 1
  refine ap_congr (fun _ _ => rfl) fun j hj => ?_
  unfold midI
  rw [if_pos hj, el_fv]
theorem zpw_nat (a : Fin p) (n : Nat) : zpw a (n : Int) = pw a n := by unfold zpw; rw [if_pos (by omega), Int.toNat_natCast]
theorem zpw_five (a : Fin p) : zpw a 5 = pw a 5 := zpw_nat a 5
end
def cstI (p : Nat) [NeZero p] (r i : Int) : Int := if 0 ≤ r ∧ r < 8 ∧ 0 ≤ i ∧ i < 8 then fv (cstT p r.toNat i.toNat) else 0
theorem cstI_in (p : Nat) [NeZero p] {r i : Nat} (hr : r < 8) (hi : i < 8) : cstI p r i = fv (cstT p r i) := by
  unfold cstI; rw [if_pos (by omega), Int.toNat_natCast, Int.toNat_natCast]
set_option maxRecDepth 100000 in
set_option maxHeartbeats 2000000 in
theorem const_any (p b s : Nat) [NeZero p] (hp1 : 2 ≤ p) (hp2 : p ≤ 2147483647) (r i : Int) (hr : I64 r) (hi : I64 i) (w : World) (hs0 : w.cell? ⟨s, 0, none⟩ = some (.pointer (some ⟨b, 0, none⟩))) (hcb : w.cell? ⟨b, 0, none⟩ = some (vi p)) :
    Calls Tryz.prog 124 #[.pointer (some ⟨s, 0, none⟩), vi r, vi i] w fun e w' => e = .returned (vi (cstI p r i)) ∧ ∃ n, w' = w.drewN n := by
  by_cases h : 0 ≤ r ∧ r < 8 ∧ 0 ≤ i ∧ i < 8
  · obtain ⟨r1, r2, i1, i2⟩ := h
    have e1 : cstI p r i = fv (pw (el p (8 * r + i + 1)) 5 + el p 3) := by
      unfold cstI cstT; rw [if_pos ⟨r1, r2, i1, i2⟩]; congr 4; omega
    rw [e1]
    have hpow := fun W hc => pow_any p hp1 hp2 b (8 * r + i + 1) 5 (by constructor <;> omega) (by constructor <;> omega) W hc
    rw [zpw_five] at hpow
    obtain ⟨T, hT⟩ : ∃ T, T = pw (el p (8 * r + i + 1)) 5 := ⟨_, rfl⟩
    rw [← hT] at hpow ⊢
    have hadd := fun W hc => add_any p hp2 b (fv T) 3 (i64_fv _ hp2) (by constructor <;> omega) W hc
    rw [el_fv] at hadd
    have HP := Lib.hid hpow
    have HA := Lib.hid hadd
    obtain ⟨hr1, hr2⟩ := hr
    obtain ⟨hi1, hi2⟩ := hi
    clear hpow hadd hT e1
    go_enter Tryz.func124, Tryz.ntmps124
    go_wp2
    go_quiet (first | (go_at_call 40; exact Calls.quiet_of (HP.out _ (by assumption))) | (go_at_call 73; exact Calls.quiet_of (HA.out _ (by assumption))))
    go_wp2
    go_ret
    exact ⟨rfl, _, rfl⟩
  · have e1 : cstI p r i = 0 := by unfold cstI; rw [if_neg h]
    rw [e1]
    obtain ⟨hr1, hr2⟩ := hr
    obtain ⟨hi1, hi2⟩ := hi
    rcases (show r < 0 ∨ (0 ≤ r ∧ 8 ≤ r) ∨ (0 ≤ r ∧ r < 8 ∧ i < 0) ∨ (0 ≤ r ∧ r < 8 ∧ 0 ≤ i ∧ 8 ≤ i) by omega) with h1 | ⟨h1, h2⟩ | ⟨h1, h2, h3⟩ | ⟨h1, h2, h3, h4⟩
    all_goals
      clear h e1
      go_enter Tryz.func124, Tryz.ntmps124
      go_wp2
      go_ret
      exact ⟨rfl, 0, rfl⟩
def PermRel {p : Nat} [NeZero p] (k : Nat) (x : Nat → Int) (w : World) (t : Value) (wr : World) : Prop :=
  ∃ r : Nat, r ≤ 8 ∧ t = vi r ∧ Blk wr w.heap.size 66 (st (permI (p := p) k x r)) ∧ Blk wr (w.heap.size + 1) 66 (st fun _ => 0) ∧ Below w.heap.size w wr
def PermIn {p : Nat} [NeZero p] (k : Nat) (x : Nat → Int) (w : World) (r : Nat) (t : Value) (wr : World) : Prop :=
  ∃ i : Nat, i ≤ 8 ∧ t = vi i ∧ Blk wr w.heap.size 66 (st (midI (p := p) k x r i)) ∧ Blk wr (w.heap.size + 1) 66 (st fun _ => 0) ∧ Below w.heap.size w wr
set_option maxRecDepth 100000 in
set_option maxHeartbeats 4000000 in
theorem permuted_any (p S b s k z : Nat) [NeZero p] (oo : Nat → Nat → Fin p) (x : Nat → Int) (hx : ∀ i, I64 (x i)) (w : World) (F : Fld w S b p) (G : Spg w s b k z oo) :
    Calls Tryz.prog 105 #[.pointer (some ⟨s, 0, none⟩), .agg (st x)] w fun e w' => e = .returned (.agg (st fun i => fv (permT (p := p) k (fun j => el p (x j)) 8 i))) ∧ Below w.heap.size w w' := by
  have hp1 := F.two
  have hp2 := F.max
  have hsl := block_lt_of_cell G.c0
  have hb1 : Below w.heap.size w (w.alloc (.cells (st x) 66)) := (Below.refl _ _).alloc (Nat.le_refl _) _
  have hb2 := hb1.alloc hb1.size (.cells (st fun _ => 0) 66)
  have hB0 := (Blk.new w 66 (st x)).alloc (.cells (st fun _ => 0) 66)
  have hB1 := Blk.new (w.alloc (.cells (st x) 66)) 66 (st fun _ => 0)
  rw [World.size_alloc] at hB1
  have hkk : (k : Int) ≤ 2147483647 := by have := G.kp; omega
  have hmx : Tryz.prog.follows .mixedOrders = true := by kernel_rfl
  go_enter Tryz.func105, Tryz.ntmps105
  go_wp2
  go_loopw [7] (fun t wr => PermRel (p := p) k x w t wr) (fun t _ => 8 - (intOf t).toNat)
  case atStart => exact ⟨0, by omega, rfl, by rw [permI_zero]; exact hB0, hB1, hb2⟩
  case round =>
    obtain ⟨r, hr, rfl, h0, h1, hb⟩ := hrel
    clear hB0 hB1 hb1 hb2
    by_cases hr8 : r < 8
    · have r1 : (0 : Int) ≤ (r : Int) := by omega
      have r2 : (r : Int) < 8 := by omega
      rw [← midI_zero] at h0
      go_wp2
      go_loopw [10, 6] (fun t _ wr => PermIn (p := p) k x w r t wr) (fun t _ _ => 8 - (intOf t).toNat)
      case atStart => exact ⟨0, by omega, rfl, h0, h1, hb⟩
      case round =>
        clear h0 h1 hb
        obtain ⟨i, hi, rfl, h0, h1, hb⟩ := hrel
        by_cases hi8 : i < 8
        · have i1 : (0 : Int) ≤ (i : Int) := by omega
          have i2 : (i : Int) < 8 := by omega
          have hcr := (F.below hb F.le).c0
          have hGr := G.below hb hsl
          have hs0 := hGr.c0
          have hs1 := hGr.c1
          have cX := h0.at8 hi8
          have fX := h0.frozen i
          rw [midI_at] at cX
          have hst := midI_step (p := p) k x r i
          have hXI := permI_i64 (p := p) hp2 k hx r i
          have hXe := permI_el (p := p) k x r i
          obtain ⟨V, hV⟩ : ∃ V, V = permT (p := p) k (fun j => el p (x j)) r i := ⟨_, rfl⟩
          rw [← hV] at hst hXe
          generalize permI (p := p) k x r i = X at cX hXI hXe
          obtain ⟨C, hC⟩ : ∃ C, C = cstT p r i := ⟨_, rfl⟩
          have hcst := fun W ha hb => const_any p b s hp1 hp2 r i ⟨by omega, by omega⟩ ⟨by omega, by omega⟩ W ha hb
          rw [cstI_in p hr8 hi8, ← hC] at hcst
          obtain ⟨U, hU⟩ : ∃ U, U = V + C := ⟨_, rfl⟩
          have hadd := fun W hc => add_any p hp2 b X (fv C) hXI (i64_fv _ hp2) W hc
          rw [hXe, el_fv, ← hU] at hadd
          have hpow := fun W hc => pow_any p hp1 hp2 b (fv U) k (i64_fv _ hp2) ⟨by omega, by omega⟩ W hc
          rw [el_fv, zpw_nat] at hpow
          obtain ⟨T, hT⟩ : ∃ T, T = pw U k := ⟨_, rfl⟩
          rw [← hC, ← hU, ← hT] at hst
          rw [← hT] at hpow
          have hset := fun (W : World) (u : Fin p) (h : Blk W w.heap.size 66 (st (midI (p := p) k x r i))) => h.set8 hi8 (fv u)
          have HC := Lib.hid hcst
          have HA := Lib.hid hadd
          have HP := Lib.hid hpow
          have HST := Lib.hid hst
          have HSET := Lib.hid hset
          clear hcst hadd hpow hst hset hV hC hU hT hXI hXe hGr
          go_wp2
          refine wp_region_quiet_tail 23 hmx (by kernel_rfl) ?_
          simp only [List.take_succ_cons, List.take_zero, List.drop_succ_cons, List.drop_zero]
          repeat (quiet_step (first | (go_at_call 40; exact Calls.quiet_of (HP.out _ (by exact hcr))) | (go_at_call 73; exact Calls.quiet_of (HA.out _ (by exact hcr))) | (go_at_call 124; exact Calls.quiet_of (HC.out _ (by exact hs0) (by exact hcr)))))
          refine wpQuiet_nil ?_
          intro _ hw'
          obtain ⟨nq1, hw''⟩ := hw'
          subst hw''
          have q0 := HSET.out _ T (h0.drewN nq1)
          have q1 := (h1.drewN nq1).far (p := ⟨w.heap.size, i, none⟩) (by show w.heap.size + 1 ≠ w.heap.size; omega) (vi (fv T))
          have qb := (below_drewN hb nq1).setCell (p := ⟨w.heap.size, i, none⟩) (Nat.le_refl _) (vi (fv T))
          rw [HST.out] at q0
          go_wp2
          go_roundw
          case rel => exact ⟨i + 1, by omega, by go_num, q0, q1, qb⟩
          case measure => simp [intOf]; omega
        · have ei : i = 8 := by omega
          subst ei
          have hFr := F.below hb F.le
          have hGr := G.below hb hsl
          have hI := midI_i64 (p := p) hp2 k hx r 8
          have hdn := midI_done (p := p) k x r
          obtain ⟨X, hX⟩ : ∃ X, X = midI (p := p) k x r 8 := ⟨_, rfl⟩
          rw [← hX] at h0 hI hdn
          have x0 := h0.at8 (show 0 < 8 by omega)
          have x1 := h0.at8 (show 1 < 8 by omega)
          have x2 := h0.at8 (show 2 < 8 by omega)
          have x3 := h0.at8 (show 3 < 8 by omega)
          have x4 := h0.at8 (show 4 < 8 by omega)
          have x5 := h0.at8 (show 5 < 8 by omega)
          have x6 := h0.at8 (show 6 < 8 by omega)
          have x7 := h0.at8 (show 7 < 8 by omega)
          have HT := Lib.hid (fun n => times_any p S b s s 3 (cauchy p) X hI (wr.drewN n) (hFr.below (below_drewN (Below.refl _ _) n) hFr.le) hGr.c0 hGr.mat)
          obtain ⟨R, hR⟩ : ∃ R : Nat → Int, R = fun a => fv (ap (cauchy p) (fun j => el p (X j)) a) := ⟨_, rfl⟩
          rw [← hR] at HT hdn
          have hDN := Lib.hid hdn
          have H0 := Lib.hid h0
          have H1 := Lib.hid h1
          have HB := Lib.hid hb
          clear hdn hR hX hI hFr hGr h0 h1 hb
          go_wp2
          refine wp_region_quiet_tail 5 hmx (by kernel_rfl) ?_
          simp only [List.take_succ_cons, List.take_zero, List.drop_succ_cons, List.drop_zero]
          repeat (quiet_step (fail))
          refine wpQuiet_nil ?_
          intro _ hw'
          obtain ⟨nq1, hw''⟩ := hw'
          subst hw''
          clear x0 x1 x2 x3 x4 x5 x6 x7
          go_wp2_with (first | (go_at_call 125; refine (HT.out nq1).mono ?_; rintro _ w3 ⟨rfl, hb3⟩; have h3 := Blk.below (H0.out.drewN nq1) hb3 H0.out.lt; have HB4 := Lib.hid hb3; clear hb3) | (refine wpList_store_row rfl 66 _ _ rfl w.heap.size _ rfl rfl _ _ h3 (info8 _) (by rw [st_size, st_size]) (st_one _) ?_))
          have hBR : Blk (w3.setRow w.heap.size (st R)) w.heap.size 66 (st R) := setRow_heap _ _ _ _ _ _ h3
          have hBP : Blk (w3.setRow w.heap.size (st R)) w.heap.size 66 (st (permI (p := p) k x (r + 1))) := by rw [← hDN.out]; exact hBR
          have hB1 : Blk (w3.setRow w.heap.size (st R)) (w.heap.size + 1) 66 (st fun _ => 0) := (setRow_other w3 w.heap.size (w.heap.size + 1) (st R) (by omega)).trans (Blk.below (H1.out.drewN nq1) HB4.out H1.out.lt)
          have hBB := below_setRow8 ((below_drewN HB.out nq1).trans (HB4.out.mono (below_drewN HB.out nq1).size)) (Nat.le_refl _) (st R)
          go_roundw
          case rel => exact ⟨r + 1, by omega, by go_num, hBP, hB1, hBB⟩
          case measure => simp [intOf]; omega
    · have er : r = 8 := by omega
      have hres : st (permI (p := p) k x r) = st fun i => fv (permT (p := p) k (fun j => el p (x j)) 8 i) := st_congr fun j hj => by subst er; rfl
      rw [hres] at h0
      obtain ⟨R, hR⟩ : ∃ R : Nat → Int, R = fun i => fv (permT (p := p) k (fun j => el p (x j)) 8 i) := ⟨_, rfl⟩
      rw [← hR] at h0
      have HR := Lib.hid hR
      have t1 : ¬ (r : Int) < 8 := by omega
      clear hR er hres
      go_wp2_with (first | (refine wpList_load_row rfl 66 _ rfl w.heap.size rfl _ _ _ _ h0 Tryz.underlying66 rfl (info8 _) ?_) | (refine wpList_store_row rfl 66 _ _ rfl (w.heap.size + 1) _ rfl rfl _ _ h1 (info8 _) (by rw [st_size, st_size]) (st_one _) ?_))
      have hB1 : Blk (wr.setRow (w.heap.size + 1) (st R)) (w.heap.size + 1) 66 (st R) := setRow_heap _ _ _ _ _ _ h1
      refine bodyPost_ret (v := .agg (st R)) (results_cell_row (P := Tryz.prog) (by rfl) _ _ (w.heap.size + 1) _ _ _ _ (by rfl) hB1 Tryz.underlying66 rfl (info8 _)) rfl ⟨by rw [HR.out], below_setRow8 hb (by omega) _⟩
end Go.Proofs.YteceghbjjnknbaaGreat

namespace Go.Proofs.YteceghbjjnknbaaGreat
open Go.RowKit Zp
theorem sfield_s {p : Nat} [NeZero p] (s b k z : Nat) (oo : Nat → Nat → Fin p) (w : World) (G : Spg w s b k z oo) :
    Calls Tryz.prog 6 #[.pointer (some ⟨s, 0, none⟩)] w fun e w' => e = .returned (.pointer (some ⟨b, 0, none⟩)) ∧ w = w' := by
  have h1 := G.c0
  clear G
  go_enter Tryz.func6, Tryz.ntmps6
  go_wp2
  go_ret
  exact ⟨rfl, rfl⟩
def padN (n : Nat) : Nat := (4 - (n + 1) % 4) % 4
def padL (l : List Int) : List Int := l ++ [1] ++ List.replicate (padN l.length) 0
end Go.Proofs.YteceghbjjnknbaaGreat

namespace Go.Proofs.YteceghbjjnknbaaGreat
open Go.RowKit
def eqB (xs ys : List Int) : Bool := decide (xs = ys)
theorem eqB_true {xs ys : List Int} (h : xs = ys) : eqB xs ys = true := decide_eq_true h
theorem eqB_false {xs ys : List Int} (h : xs ≠ ys) : eqB xs ys = false := decide_eq_false h
def IntsRel (xs ys : List Int) (w : World) (i : Value) (wr : World) : Prop := ∃ k : Nat, k ≤ xs.length ∧ i = vi k ∧ xs.take k = ys.take k ∧ ∃ j, wr = w.drewN j
set_option maxHeartbeats 1000000 in
theorem ints_any (A B : Option Addr) (c d : Nat) (xs ys : List Int) (hx : xs.length ≤ 9223372036854775807) (hy : ys.length ≤ 9223372036854775807) (w : World) (hsx : SL w A xs) (hsy : SL w B ys) :
    Calls Tryz.prog 15 #[.slice A xs.length c, .slice B ys.length d] w fun e w' => e = .returned (.bool (eqB xs ys)) ∧ ∃ k, w' = w.drewN k := by
  obtain ⟨n, hn⟩ : ∃ n, n = xs.length := ⟨_, rfl⟩
  obtain ⟨m, hm⟩ : ∃ m, m = ys.length := ⟨_, rfl⟩
  rw [← hn, ← hm]
  rw [← hn] at hx
  rw [← hm] at hy
  have HN := Lib.hid hn
  have HM := Lib.hid hm
  clear hn hm
  by_cases hnm : n = m
  · have t1 : ((n : Int) != (m : Int)) = false := by rw [bne_eq_false_iff_eq]; omega
    have HNM := Lib.hid hnm
    clear hnm
    go_enter Tryz.func15, Tryz.ntmps15
    go_wp2
    go_loopw [5] (fun i wr => IntsRel xs ys w i wr) (fun i _ => n - (intOf i).toNat)
    case atStart => exact ⟨0, Nat.zero_le _, rfl, by simp, 0, rfl⟩
    case round =>
      obtain ⟨k, hk, rfl, heq, j, rfl⟩ := hrel
      rw [← HN.out] at hk
      have HEQ := Lib.hid heq
      clear heq
      by_cases hlt : k < n
      · have hkm : k < m := by rw [← HNM.out]; exact hlt
        have hkx : k < xs.length := by rw [← HN.out]; exact hlt
        have hky : k < ys.length := by rw [← HM.out]; exact hkm
        obtain ⟨ad, rfl, _, hc1⟩ := (hsx.drewN j).at_ hkx
        obtain ⟨bd, rfl, _, hc2⟩ := (hsy.drewN j).at_ hky
        have i1 : (0 : Int) ≤ k := by omega
        have i2 : (k : Int) < n := by omega
        have i3 : (k : Int) < m := by omega
        have htk : xs.take (k + 1) = xs.take k ++ [xs[k]] := List.take_succ_eq_append_getElem hkx
        have hty : ys.take (k + 1) = ys.take k ++ [ys[k]] := List.take_succ_eq_append_getElem hky
        obtain ⟨x, hxk⟩ : ∃ x, x = xs[k] := ⟨_, rfl⟩
        obtain ⟨y, hyk⟩ : ∃ y, y = ys[k] := ⟨_, rfl⟩
        rw [← hxk] at hc1 htk
        rw [← hyk] at hc2 hty
        rw [World.cell?_drewN] at hc1 hc2
        by_cases hxy : x = y
        · have t2 : (x != y) = false := by rw [hxy]; simp
          have h2 : xs.take (k + 1) = ys.take (k + 1) := by rw [htk, hty, HEQ.out, hxy]
          have H2 := Lib.hid h2
          clear h2 hxy htk hty hxk hyk
          go_wp2
          go_quiet (fail)
          go_wp2
          go_roundw
          case rel => exact ⟨k + 1, by rw [← HN.out]; omega, by go_num, H2.out, _, rfl⟩
          case measure => simp [intOf]; omega
        · have t2 : (x != y) = true := by rw [bne_iff_ne]; exact hxy
          have h2 : eqB xs ys = false := eqB_false fun e => by
            subst e
            exact hxy (by rw [hxk, hyk])
          have H2 := Lib.hid h2
          clear h2 hxy htk hty hxk hyk
          go_wp2
          go_quiet (fail)
          go_wp2
          go_ret
          exact ⟨ret_bool H2.out.symm, _, World.drewN_drewN _ _ _⟩
      · obtain rfl : k = n := by omega
        have h2 : eqB xs ys = true := eqB_true (by
          have := HEQ.out
          rwa [List.take_of_length_le (by rw [← HN.out]; exact Nat.le_refl _), List.take_of_length_le (by rw [← HM.out, ← HNM.out]; exact Nat.le_refl _)] at this)
        have H2 := Lib.hid h2
        clear h2
        go_wp2
        go_ret
        exact ⟨ret_bool H2.out.symm, _, rfl⟩
  · have t1 : ((n : Int) != (m : Int)) = true := by rw [bne_iff_ne]; omega
    have h2 : eqB xs ys = false := eqB_false fun e => hnm (by rw [HN.out, HM.out, e])
    have H2 := Lib.hid h2
    clear h2 hnm
    go_enter Tryz.func15, Tryz.ntmps15
    go_wp2
    go_ret
    exact ⟨ret_bool H2.out.symm, 0, rfl⟩
theorem clip_any (A : Option Addr) (n c : Nat) (hn : n ≤ c) (hc : c ≤ 9223372036854775807) (w : World) :
    Calls Tryz.prog 22 #[.slice A n c] w fun e w' => e = .returned (.slice A n n) ∧ w = w' := by
  go_enter Tryz.func22, Tryz.ntmps22
  go_wp2
  go_ret
  exact ⟨rfl, rfl⟩
end Go.Proofs.YteceghbjjnknbaaGreat

namespace Go.Proofs.YteceghbjjnknbaaGreat
open Go.RowKit Zp
theorem Own.fresh {w : World} {base n c : Nat} {A : Option Addr} {xs : List Int} (h : Own w base (.slice A n c) xs) : ∀ ad, A = some ad → base ≤ ad.block := by
  obtain ⟨A', c', e, _, _, hf, _⟩ := h.shape
  injection e with e1 _ _
  subst e1
  intro ad ea
  obtain ⟨g, rfl, hg, _⟩ := hf ad ea
  exact hg
def GivesNew (xs : List Int) (w : World) (e : Ending) (w' : World) : Prop := ∃ A c, e = .returned (.slice A xs.length c) ∧ xs.length ≤ c ∧ c ≤ maxLen ∧ SL w' A xs ∧ Below w.heap.size w w' ∧ ∀ ad, A = some ad → w.heap.size ≤ ad.block
def PadRel {p : Nat} [NeZero p] (l : List Int) (w : World) (v t : Value) (wr : World) : Prop :=
  ∃ j : Nat, j ≤ l.length ∧ t = vi j ∧ Own wr w.heap.size v ((fvs (els p l)).take j) ∧ Below w.heap.size w wr
set_option maxRecDepth 100000 in
set_option maxHeartbeats 2000000 in
theorem pad_new (p S b s k z : Nat) [NeZero p] (oo : Nat → Nat → Fin p) (A : Option Addr) (m c : Nat) (l : List Int) (hm : l.length = m) (hI : ∀ n ∈ l, I64 n) (hr : m * 8 + 64 ≤ 140737488355328) (w : World) (F : Fld w S b p) (G : Spg w s b k z oo) (hs : SL w A l) :
    Calls Tryz.prog 104 #[.pointer (some ⟨s, 0, none⟩), .slice A m c] w fun e w' => GivesNew (padL (fvs (els p l))) w e w' := by
  have hp2 := F.max
  have hcb := F.c0
  have hbl := block_lt_of_cell hcb
  have hs0 := G.c0
  have hsl := block_lt_of_cell hs0
  have hlen : (fvs (els p l)).length = m := by simp [fvs, els, hm]
  have HLEN := Lib.hid hlen
  have HML := Lib.hid hm
  have hmk := make_ints0 (m + 4) (by omega)
  have e4 : ((m + 4 : Nat) : Int) = (m : Int) + 4 := by omega
  rw [e4] at hmk
  clear e4
  have hO0 := own_made0 w w.heap.size (m + 4) (Nat.le_refl _) (by omega)
  have hb0 : Below w.heap.size w (w.alloc (.cells (zeros (m + 4)) 3)) := (Below.refl _ _).alloc (Nat.le_refl _) _
  clear G hlen hm
  go_enter Tryz.func104, Tryz.ntmps104
  go_wp2
  have hO : Own (w.alloc (.cells (zeros (m + 4)) 3)) w.heap.size (.slice (some ⟨w.heap.size, 0, none⟩) 0 (m + 4)) ((fvs (els p l)).take 0) := hO0
  have hb1 := hb0
  generalize World.alloc _ _ = W0 at hO hb1
  clear hO0 hb0 hmk
  go_loopw [5, 14] (fun v t wr => PadRel (p := p) l w v t wr) (fun _ t _ => m - (intOf t).toNat)
  case atStart => exact ⟨0, by omega, rfl, hO, hb1⟩
  case round =>
    clear hO hb1
    obtain ⟨j, hj, rfl, hown, hb⟩ := hrel
    have hcr := (F.below hb F.le).c0
    have hsr := (hb.cell (p := ⟨s, 0, none⟩) hsl).trans hs0
    by_cases hjm : j < m
    · have hjl : j < l.length := by rw [HML.out]; exact hjm
      obtain ⟨ad, rfl, hab, hcell⟩ := (hs.below hb).at_ hjl
      have hn := hI _ (List.getElem_mem hjl)
      have htk : (fvs (els p l)).take (j + 1) = (fvs (els p l)).take j ++ [fv (el p l[j])] := by
        rw [List.take_succ_eq_append_getElem (by rw [HLEN.out]; exact hjm)]
        simp [fvs, els]
      have hlk : ((fvs (els p l)).take j).length < 17592186044416 := by
        have := List.length_take_le j (fvs (els p l)); omega
      have HTK := Lib.hid htk
      have HLK := Lib.hid hlk
      have j1 : (0 : Int) ≤ (j : Int) := by omega
      have j2 : (j : Int) < (m : Int) := by omega
      clear htk hlk
      generalize l[j] = x at hcell hn HTK
      have hof := fun W hc => of_el p hp2 b x hn W hc
      have HOF := Lib.hid hof
      clear hof
      go_wp2_with fail
      refine (HOF.out _ (by exact hcr)).mono ?_
      rintro _ w1 ⟨rfl, hw1⟩
      have hw1' := hw1.symm
      subst hw1'
      go_wp2_with (at_builtin; refine wpList_app1 wr (fv (el p x)) rfl _ _ rfl w.heap.size _ _ rfl rfl hown HLK.out hb.size ?_; intro v' w1 hg)
      exact ⟨⟨j + 1, by omega, rfl, by rw [HTK.out]; exact hg.own, hg.below hb hown (Nat.le_refl _) hb.size⟩, by simp [intOf]; omega⟩
    · obtain ⟨L, hL⟩ : ∃ L, L = fvs (els p l) := ⟨_, rfl⟩
      have hjm' : j = m := by have := HML.out; omega
      have hLn : L.length = m := by rw [hL]; exact HLEN.out
      rw [← hL, List.take_of_length_le (by rw [hLn]; omega)] at hown
      have HL := Lib.hid hL
      have HLN := Lib.hid hLn
      have t1 : ¬ (j : Int) < (m : Int) := by omega
      have hlk : L.length < 17592186044416 := by omega
      have HLK := Lib.hid hlk
      clear hL hLn hlk hjm'
      go_wp2_with (at_builtin; refine wpList_app1 wr 1 rfl _ _ rfl w.heap.size _ _ rfl rfl hown HLK.out hb.size ?_; intro v' w1 hg)
      have hown1 := hg.own
      have hb1 := hg.below hb hown (Nat.le_refl _) hb.size
      clear hg hown hcr hsr
      go_loopw [5] (fun v wr => ∃ q : Nat, q ≤ padN m ∧ Own wr w.heap.size v (L ++ [1] ++ List.replicate q 0) ∧ Below w.heap.size w wr) (fun v _ => m + 5 - (match v with | .slice _ n _ => n | _ => 0))
      case atStart => exact ⟨0, Nat.zero_le _, by simpa using hown1, hb1⟩
      case round =>
        obtain ⟨q, hq, hown, hb⟩ := hrel
        obtain ⟨A1, n1, c1, rfl, hl1, hc1, hc2, hs1⟩ := hown.shapeN
        have HFR := Lib.hid hown.fresh
        have hn1 : n1 = m + 1 + q := by rw [← hl1]; simp [HLN.out]; omega
        have hp4 : padN m ≤ 3 := by unfold padN; omega
        have em : (n1 : Int) % 4 = ((n1 % 4 : Nat) : Int) := by omega
        have HN1 := Lib.hid hn1
        have HL1 := Lib.hid hl1
        by_cases h4 : n1 % 4 = 0
        · have tq : ((n1 : Int) % 4 != 0) = false := by rw [em, h4]; rfl
          have hqq : q = padN m := by unfold padN at *; omega
          have HQQ := Lib.hid hqq
          clear hl1 hn1 em h4 hqq
          have hm2 : c1 ≤ 9223372036854775807 := by unfold maxLen at hc2; exact hc2
          go_wp2_with fail
          refine (clip_any A1 n1 c1 hc1 hm2 _).mono ?_
          rintro _ _ ⟨rfl, rfl⟩
          go_wp2
          go_ret
          have hx : padL (fvs (els p l)) = L ++ [1] ++ List.replicate q 0 := by unfold padL; rw [← HL.out, HLN.out, ← HQQ.out]
          exact ⟨A1, n1, by rw [hx, HL1.out]; rfl, by rw [hx, HL1.out]; exact Nat.le_refl _, Nat.le_trans hc1 hc2, by rw [hx]; exact hs1, hb, HFR.out⟩
        · have tq : ((n1 : Int) % 4 != 0) = true := by rw [em, bne_iff_ne]; omega
          have hq4 : q + 1 ≤ padN m := by unfold padN at *; omega
          have hlk : (L ++ [1] ++ List.replicate q 0).length < 17592186044416 := by rw [HL1.out]; omega
          have HLK := Lib.hid hlk
          clear hl1 hn1 em h4 hlk
          go_wp2_with (at_builtin; refine wpList_app1 wr 0 rfl _ _ rfl w.heap.size _ _ rfl rfl hown HLK.out hb.size ?_; intro v' w1 hg)
          have ho := hg.own
          have hbb := hg.below hb hown (Nat.le_refl _) hb.size
          have ex : L ++ [1] ++ List.replicate q 0 ++ [0] = L ++ [1] ++ List.replicate (q + 1) 0 := by rw [List.replicate_succ', ← List.append_assoc]
          rw [ex] at ho
          clear hg hown
          obtain ⟨A2, n2, c2, rfl, h21, _, _, _⟩ := ho.shapeN
          have hn2 : n2 = m + 1 + (q + 1) := by rw [← h21]; simp [HLN.out]; omega
          have h1n := HN1.out
          exact ⟨⟨q + 1, hq4, ho, hbb⟩, by show m + 5 - n2 < m + 5 - n1; omega⟩
end Go.Proofs.YteceghbjjnknbaaGreat

namespace Go.Proofs.YteceghbjjnknbaaGreat
open Go.RowKit Zp
section
variable {p : Nat}
def absT (v m : Nat → Fin p) (t j : Nat) : Fin p := if j < 4 then v j + m (4 * t + j) else v j
def absI (v m : Nat → Fin p) (t i j : Nat) : Int := if j < i then fv (v j + m (4 * t + j)) else fv (v j)
theorem absI_zero (v m : Nat → Fin p) (t : Nat) : absI v m t 0 = fun j => fv (v j) := by funext j; simp [absI]
theorem absI_at (v m : Nat → Fin p) (t i : Nat) : absI v m t i i = fv (v i) := by simp [absI]
theorem absI_step (v m : Nat → Fin p) (t i : Nat) : upd (absI v m t i) i (fv (v i + m (4 * t + i))) = absI v m t (i + 1) := by
  funext j
  unfold upd absI
  by_cases h : j = i
  · subst h; rw [if_pos rfl, if_pos (by omega)]
  · rw [if_neg h]
    by_cases h1 : j < i
    · rw [if_pos h1, if_pos (by omega)]
    · rw [if_neg h1, if_neg (by omega)]
theorem i64_absI (hm : p ≤ 2147483647) (v m : Nat → Fin p) (t i j : Nat) : I64 (absI v m t i j) := by
  unfold absI
  split <;> exact i64_fv _ hm
end
section
variable {p : Nat} [NeZero p]
theorem permT_congr (k : Nat) {u v : Nat → Fin p} (h : ∀ j, j < 8 → u j = v j) : ∀ r j, j < 8 → permT k u r j = permT k v r j := by
  intro r
  induction r with
  | zero => exact h
  | succ r ih =>
    intro j hj
    show ap (cauchy p) _ j = ap (cauchy p) _ j
    exact ap_congr (fun _ _ => rfl) fun i hi => by rw [ih i hi]
def hashT (k : Nat) (m : Nat → Fin p) : Nat → Nat → Fin p
  | 0 => fun _ => 0
  | t + 1 => permT k (absT (hashT k m t) m t) 8
theorem absI_done (v m : Nat → Fin p) (t j : Nat) : el p (absI v m t 4 j) = absT v m t j := by
  unfold absI absT
  split <;> rw [el_fv]
def padE (p : Nat) [NeZero p] (l : List Int) (j : Nat) : Fin p := el p ((padL (fvs (els p l))).getD j 0)
theorem padE_at (h2 : 2 ≤ p) (l : List Int) {j : Nat} (hj : j < (padL (fvs (els p l))).length) : (padL (fvs (els p l)))[j] = fv (padE p l j) := by
  have hx : ∀ x ∈ padL (fvs (els p l)), 0 ≤ x ∧ x < (p : Int) := by
    intro x hx
    unfold padL at hx
    rw [List.mem_append, List.mem_append] at hx
    rcases hx with (hx | hx) | hx
    · obtain ⟨y, _, rfl⟩ := List.mem_map.1 hx
      exact ⟨fv_nonneg y, fv_lt y⟩
    · simp at hx; subst hx; constructor <;> omega
    · have := List.eq_of_mem_replicate hx; subst this; constructor <;> omega
  obtain ⟨h0, h1⟩ := hx _ (List.getElem_mem hj)
  unfold padE
  rw [List.getD, List.getElem?_eq_getElem hj, Option.getD_some, fv_el, Int.emod_eq_of_lt h0 h1]
def padC (n : Nat) : Nat := (n + 1 + padN n) / 4
theorem padC_len (l : List Int) : (padL l).length = 4 * padC l.length := by
  unfold padL padC padN
  simp only [List.length_append, List.length_cons, List.length_nil, List.length_replicate]
  omega
def digE (p k : Nat) [NeZero p] (l : List Int) : Nat → Fin p := hashT k (padE p l) (padC l.length)
def digL (p k : Nat) [NeZero p] (l : List Int) : List Int := (List.range 4).map fun j => fv (digE p k l j)
theorem digL_len (k : Nat) (l : List Int) : (digL p k l).length = 4 := by simp [digL]
end
theorem SL.pre {w : World} {A : Option Addr} {xs : List Int} (h : SL w A xs) (k : Nat) : SL w A (xs.take k) := by
  refine ⟨by simp, fun hn => ?_⟩
  have hl : 0 < xs.length := by rw [List.length_take] at hn; omega
  obtain ⟨ad, e, hb, hc⟩ := h.2 hl
  refine ⟨ad, e, hb, fun j u hu => hc j u ?_⟩
  rw [List.map_take, List.getElem?_take] at hu
  split at hu
  · exact hu
  · cases hu
theorem SL.far {w w' : World} {ad : Addr} {xs : List Int} {g : Nat} (h : SL w (some ad) xs) (hg : w.grownBy w' (some g)) (hne : ad.block ≠ g) : SL w' (some ad) xs := by
  refine ⟨h.1, fun hn => ?_⟩
  obtain ⟨ad', e, hb, hc⟩ := h.2 hn
  injection e with e
  subst e
  refine ⟨ad, rfl, Nat.lt_of_lt_of_le hb hg.size, fun j u hu => ?_⟩
  refine (World.cell?_of_block (hg.block _ (by rw [block_of_add]; exact hb) (by rw [block_of_add]; intro e; injection e with e; exact hne e))).trans (hc j u hu)
theorem blk_grown {w : World} {g i : Nat} {u : Value} : w.grownBy (w.setCell ⟨g, i, none⟩ u) (some g) :=
  ⟨rfl, rfl, rfl, by rw [World.size_setCell]; exact Nat.le_refl _, fun k _ hne => Below.heap_setCell w _ u k (fun e => hne (by rw [e]))⟩
theorem grown_of_below {w w' : World} (h : Below w.heap.size w w') (row : Option Nat) : w.grownBy w' row := ⟨h.os, h.tape, h.output, h.size, fun k hk _ => h.block k hk⟩
theorem dig_sl {w : World} {g p k : Nat} [NeZero p] {l : List Int} (h : Blk w g 66 (st fun j => fv (digE p k l j))) : SL w (some ⟨g, 0, none⟩) (digL p k l) := by
  have h1 := (sl_of_blk h).pre 4
  have e : ((List.range 8).map fun j => fv (digE p k l j)).take 4 = digL p k l := by
    unfold digL
    rfl
  rwa [e] at h1
end Go.Proofs.YteceghbjjnknbaaGreat

namespace Go.Proofs.YteceghbjjnknbaaGreat
open Go.RowKit Go.Shelf Zp
attribute [local go_sem] Oper.semAt_some
abbrev Int64' := { n : Int // I64 n }
def upto {α : Type} (f : Nat → α) (k : Nat) : List α := (List.range k).map f
theorem upto_succ {α : Type} (f : Nat → α) (k : Nat) : upto f (k + 1) = upto f k ++ [f k] := by simp [upto, List.range_succ]
theorem upto_length {α : Type} (f : Nat → α) (k : Nat) : (upto f k).length = k := by simp [upto]
def backF (zs : List Int64') (j : Nat) : Nat × Int64' := (zs.length - 1 - j, zs[zs.length - 1 - j]?.getD ⟨0, by constructor <;> omega⟩)
def KeepBut (n₀ g : Nat) (A B : World) : Prop := ∀ k, k < n₀ → k ≠ g → B.heap[k]? = A.heap[k]?
theorem KeepBut.refl (n₀ g : Nat) (A : World) : KeepBut n₀ g A A := fun _ _ _ => rfl
theorem KeepBut.trans {n₀ g : Nat} {A B C : World} (h : KeepBut n₀ g A B) (k : KeepBut n₀ g B C) : KeepBut n₀ g A C := fun j hj hn => (k j hj hn).trans (h j hj hn)
theorem KeepBut.cell {n₀ g : Nat} {A B : World} (h : KeepBut n₀ g A B) {p : Addr} (hp : p.block < n₀) (hg : p.block ≠ g) : B.cell? p = A.cell? p := World.cell?_of_block (h _ hp hg)
theorem KeepBut.reads {n₀ n₁ g size n : Nat} {A B : World} {a : Option Addr} {xs : List Value} (h : KeepBut n₀ g A B) (h0 : n₁ ≤ n₀) (hg : n₁ ≤ g) (hr : Reads A n₁ size a n xs) : Reads B n₁ size a n xs :=
  hr.keep fun p hp => h.cell (by omega) (by omega)
theorem KeepBut.setCell {n₀ g : Nat} {A B : World} (h : KeepBut n₀ g A B) {p : Addr} (hp : p.block = g) (u : Value) : KeepBut n₀ g A (B.setCell p u) :=
  fun k hk hn => (Below.heap_setCell B p u k (by omega)).trans (h k hk hn)
theorem KeepBut.drewN {n₀ g : Nat} {A B : World} (h : KeepBut n₀ g A B) (m : Nat) : KeepBut n₀ g A (B.drewN m) := h
theorem KeepBut.drew {n₀ g : Nat} {A B : World} (h : KeepBut n₀ g A B) : KeepBut n₀ g A B.drew := h
theorem KeepBut.put {n₀ g B : Nat} (hB : n₀ ≤ B) (W : World) (l : Nat) (o o' : Obj) (hl : B ≤ l) (_ : W.heap[l]? = some o) (_ : o.isCells = false) (_ : o.isWalk = false) : KeepBut n₀ g W (W.putObj l o') :=
  fun k hk hn => by
    have h : k ≠ l := by omega
    simp [World.putObj, Ne.symm h]
set_option maxRecDepth 100000 in
set_option maxHeartbeats 2000000 in
theorem backward1_in (F : Fence) (n : Nat) (hf : F.fn 136) (hro : F.round = none) (hn : 1 ≤ n) (l Bs n₀ n₁ g : Nat) (hn1 : n₁ ≤ n₀) (hg : n₁ ≤ g) (hBg : Bs ≠ g) (A : Option Addr) (cap : Nat) (zs : List Int64') (hreach : zs.length * 8 ≤ 140737488351232)
    (J Jx : List (Nat × Int64') → World → Prop)
    (hY : ∀ pre x W, J pre W → pre.length < zs.length → YieldAt F (n - 1) Tryz.prog l #[.int .i64 (x.1 : Int), .int .i64 x.2.1] W fun e W' =>
      (e = .returned (.bool true) ∧ J (pre ++ [x]) W' ∧ KeepBut n₀ g W W') ∨ (e = .returned (.bool false) ∧ Jx (pre ++ [x]) W'))
    (W : World) (hBs : W.cell? ⟨Bs, 0, none⟩ = some (.slice A zs.length cap)) (hBl : Bs < n₀) (hc : Reads W n₁ 1 A zs.length ((zs.map Subtype.val).map vi)) (h0 : J [] W) :
    CallsIn F n Tryz.prog 136 #[.func (.yield l) #[] #[], .pointer (some ⟨Bs, 0, none⟩)] W fun e W' => (∃ v, e = .returned v) ∧
      ((∃ ys, ys = upto (backF zs) zs.length ∧ J ys W') ∨ (∃ pre, (∃ k, k ≤ zs.length ∧ pre = upto (backF zs) k) ∧ Jx pre W')) := by
  refine callsIn_of_wp Tryz.func136 rfl hf ?_ hro
  simp only [Tryz.ntmps136, List.size_toArray, List.length_cons, List.length_nil, Nat.reduceAdd, Nat.reduceSub, Array.replicate_succ, Array.replicate_zero, List.push_toArray, List.append_toArray, List.nil_append, List.cons_append]
  obtain ⟨len, hlen⟩ : ∃ len, len = zs.length := ⟨_, rfl⟩
  rw [← hlen] at hreach hBs ⊢
  have HL := Lib.hid hlen
  clear hlen
  gi_wp2
  gi_loopw [3] (fun i wr => ∃ k : Nat, k ≤ len ∧ i = .int .i64 ((len : Int) - 1 - k) ∧ J (upto (backF zs) k) wr ∧ KeepBut n₀ g W wr)
    (fun i _ => (intOf i + 1).toNat)
  case atStart => exact ⟨0, Nat.zero_le _, by go_num, h0, KeepBut.refl _ _ _⟩
  case round =>
    obtain ⟨k, hk, rfl, hJs, hnx⟩ := hrel
    have hBs' : wr.cell? ⟨Bs, 0, none⟩ = some (.slice A len cap) := (hnx.cell (p := ⟨Bs, 0, none⟩) hBl hBg).trans hBs
    by_cases hlt : k < len
    · obtain ⟨fn, tmps, assign, body, hy, hR⟩ := hY _ (backF zs k) wr hJs (by rw [upto_length, ← HL.out]; exact hlt)
      have hkl : len - 1 - k < zs.length := by rw [← HL.out]; omega
      obtain ⟨ad, u, rfl, hab, hx, hcell⟩ := Reads.at_ (k := len - 1 - k) (hnx.reads hn1 hg hc) hkl
      rw [List.getElem?_map, List.getElem?_map, List.getElem?_eq_getElem hkl] at hx
      have hxe : backF zs k = (len - 1 - k, zs[len - 1 - k]) := by
        simp only [backF]
        rw [← HL.out, List.getElem?_eq_getElem hkl]; rfl
      rw [hxe] at hy hR
      have hu : u = vi (zs[len - 1 - k]).1 := by simpa using hx.symm
      rw [hu] at hcell
      have i1 : 0 ≤ (len : Int) - 1 - k := by omega
      have i2 : ((len : Int) - 1 - k).toNat = len - 1 - k := by omega
      have i3 : (((len - 1 - k : Nat)) : Int) = (len : Int) - 1 - k := by omega
      dsimp only at hy hR
      rw [i3] at hy
      have I2 := Lib.hid i2
      have HXE := Lib.hid hxe
      clear i2 i3 hxe hx hu
      gi_wp2
      refine hR.mono ?_
      rintro e W3 (⟨rfl, hJ3, hk3⟩ | ⟨rfl, hJx3⟩)
      · gi_wp2
        go_roundw
        case rel => exact ⟨k + 1, by omega, by go_num, by rw [upto_succ, HXE.out]; exact hJ3, hnx.trans hk3⟩
        case measure => simp [intOf]; omega
      · gi_wp2
        refine bodyPost_ret (results_none rfl _ _ _) rfl ?_
        exact ⟨⟨_, rfl⟩, .inr ⟨_, ⟨k + 1, by omega, by rw [upto_succ, HXE.out]⟩, hJx3⟩⟩
    · obtain rfl : k = len := by omega
      gi_wp2
      go_end0
      exact ⟨⟨_, rfl⟩, .inl ⟨_, rfl, hJs⟩⟩
set_option maxHeartbeats 1000000 in
theorem backward_any (a : Option Addr) (len cap : Nat) (w : World) :
    Calls Tryz.prog 119 #[.slice a len cap] w fun e w' => e = .returned (.func (.func 136) #[] #[.pointer (some ⟨w.heap.size, 0, none⟩)]) ∧ w' = w.alloc (.cells #[.slice a len cap] 25) := by
  go_enter Tryz.func119, Tryz.ntmps119
  go_wp2
  go_ret
  exact ⟨rfl, rfl⟩
theorem backward_stops (F : Fence) (n : Nat) (hf : F.fn 136) (hro : F.round = none) (hn : 1 ≤ n) (Bs n₀ n₁ g : Nat) (hn1 : n₁ ≤ n₀) (hg : n₁ ≤ g) (hBg : Bs ≠ g) (A : Option Addr) (cap : Nat) (zs : List Int64') (hreach : zs.length * 8 ≤ 140737488351232) (w : World) (hBs : Bs < w.heap.size) (hBl : Bs < n₀) (hn₀ : n₀ ≤ w.heap.size)
    (hc : w.cell? ⟨Bs, 0, none⟩ = some (.slice A zs.length cap)) (hI : Reads w n₁ 1 A zs.length ((zs.map Subtype.val).map vi)) :
    SeqStopsK F n Tryz.prog 136 #[.pointer (some ⟨Bs, 0, none⟩)] (fun x : Nat × Int64' => #[Value.int .i64 (x.1 : Int), Value.int .i64 x.2.1]) (KeepBut n₀ g) (fun ys => ys = upto (backF zs) zs.length)
      (fun pre => ∃ k, k ≤ zs.length ∧ pre = upto (backF zs) k) zs.length w := fun l J Jx W hW _ _ hY h0 => by
  have hc' := (hW.cell (p := ⟨Bs, 0, none⟩) hBs).trans hc
  exact backward1_in F n hf hro hn l Bs n₀ n₁ g hn1 hg hBg A cap zs hreach J Jx hY W hc' hBl (hI.below (hW.mono (Nat.le_trans hn1 hn₀))) h0
def evPre {p : Nat} [NeZero p] (pre : List (Nat × Int64')) (x : Fin p) : Fin p := pre.foldl (fun s y => s * x + el p y.2.1) 0
theorem evPre_snoc {p : Nat} [NeZero p] (pre : List (Nat × Int64')) (y : Nat × Int64') (x : Fin p) : evPre (pre ++ [y]) x = evPre pre x * x + el p y.2.1 := by simp [evPre]
theorem evPre_upto {p : Nat} [NeZero p] (zs : List Int64') (x : Fin p) (k : Nat) (hk : k ≤ zs.length) :
    evPre (upto (backF zs) k) x = ev ((zs.map (fun y => el p y.1)).drop (zs.length - k)) x := by
  induction k with
  | zero => rw [Nat.sub_zero, List.drop_eq_nil_of_le (by simp)]; rfl
  | succ k ih =>
    have hi : zs.length - (k + 1) < zs.length := by omega
    rw [upto_succ, evPre_snoc, ih (by omega), List.drop_eq_getElem_cons (i := zs.length - (k + 1)) (by simpa using hi)]
    rw [show zs.length - (k + 1) + 1 = zs.length - k from by omega]
    simp only [ev, List.getElem_map]
    have hb : (backF zs k).2 = zs[zs.length - (k + 1)] := by
      simp only [backF]
      rw [show zs.length - 1 - k = zs.length - (k + 1) from by omega, List.getElem?_eq_getElem hi]; rfl
    rw [hb]
    grind
theorem exists_subtype (xs : List Int) (h : ∀ x ∈ xs, I64 x) : ∃ zs : List Int64', zs.map Subtype.val = xs := by
  induction xs with
  | nil => exact ⟨[], rfl⟩
  | cons x xs ih =>
    obtain ⟨zs, hz⟩ := ih (fun y hy => h y (by simp [hy]))
    exact ⟨⟨x, h x (by simp)⟩ :: zs, by simp [hz]⟩
set_option maxRecDepth 100000 in
set_option maxHeartbeats 4000000 in
theorem eval_sub (p : Nat) [NeZero p] (S b : Nat) (A : Option Addr) (cap : Nat) (zs : List Int64') (hreach : zs.length * 8 ≤ 140737488351232) (x : Int) (hx : I64 x) (w : World) (F : Fld w S b p) (hs : SL w A (zs.map Subtype.val)) :
    Calls Tryz.prog 96 #[.pointer (some ⟨b, 0, none⟩), .slice A zs.length cap, vi x] w fun e w' => e = .returned (vi (fv (ev (zs.map (fun y => el p y.1)) (el p x)))) ∧ Below w.heap.size w w' := by
  refine (callsIn_wide (n := 3)).1 ?_
  have hro : (Fence.wide).round = none := rfl
  have h1 : 1 ≤ 3 := by omega
  have hp2 := F.max
  refine callsIn_of_wp_marks Tryz.func96 rfl trivial ?_ hro
  simp only [Tryz.ntmps96, List.size_toArray, List.length_cons, List.length_nil, Nat.reduceAdd, Nat.reduceSub, Array.replicate_succ, Array.replicate_zero, List.push_toArray, List.append_toArray, List.nil_append, List.cons_append]
  gi_wp2_with (refine ⟨trivial, ?_⟩; gi_at_call 119; refine (callsIn_wide.2 (backward_any _ _ _ _)).mono ?_; rintro e w' ⟨rfl, rfl⟩)
  obtain ⟨W0, hW0⟩ : ∃ W0 : World, W0 = (((w.alloc (.cells #[.pointer (some ⟨b, 0, none⟩)] 29)).alloc (.cells #[vi x] 3)).alloc (.cells #[.int .i64 0] 3)).alloc (.cells #[.slice A zs.length cap] 25) := ⟨_, rfl⟩
  have hsz : W0.heap.size = w.heap.size + 4 := by rw [hW0]; simp
  have hbel : Below w.heap.size w W0 := by rw [hW0]; exact ((((Below.refl _ w).alloc (Nat.le_refl _) _).alloc (by simp) _).alloc (by simp; omega) _).alloc (by simp; omega) _
  have bF : Blk W0 w.heap.size 29 #[.pointer (some ⟨b, 0, none⟩)] := by rw [hW0]; exact (((Blk.new _ _ _).alloc _).alloc _).alloc _
  have bX : Blk W0 (w.heap.size + 1) 3 #[vi x] := by
    rw [hW0]; have := Blk.new (w.alloc (.cells #[.pointer (some ⟨b, 0, none⟩)] 29)) 3 #[vi x]
    rw [World.size_alloc] at this; exact (this.alloc _).alloc _
  have bS : Blk W0 (w.heap.size + 1 + 1) 3 #[.int .i64 0] := by
    rw [hW0]; have := Blk.new ((w.alloc (.cells #[.pointer (some ⟨b, 0, none⟩)] 29)).alloc (.cells #[vi x] 3)) 3 #[.int .i64 0]
    rw [World.size_alloc, World.size_alloc] at this; exact this.alloc _
  have bL : Blk W0 (w.heap.size + 1 + 1 + 1) 25 #[.slice A zs.length cap] := by
    rw [hW0]; have := Blk.new (((w.alloc (.cells #[.pointer (some ⟨b, 0, none⟩)] 29)).alloc (.cells #[vi x] 3)).alloc (.cells #[.int .i64 0] 3)) 25 #[.slice A zs.length cap]
    rw [World.size_alloc, World.size_alloc, World.size_alloc] at this; exact this
  rw [← hW0]
  clear hW0
  have hs' : Reads W0 w.heap.size 1 A zs.length ((zs.map Subtype.val).map vi) := by
    have := Reads.below hs hbel
    rwa [List.length_map] at this
  refine wpIn_rangeFunc_ownG hro h1 (gf := 136) (lb := #[.pointer (some ⟨w.heap.size + 1 + 1 + 1, 0, none⟩)]) rfl trivial (enters_of Tryz.func136 (by kernel_rfl) rfl)
    (backward_stops Fence.wide (3 - 1) trivial hro (by omega) (w.heap.size + 1 + 1 + 1) (w.heap.size + 4) w.heap.size (w.heap.size + 1 + 1) (by omega) (by omega) (by omega) A cap zs hreach W0 (by omega) (by omega) (by omega) (by rw [bL.cell]; rfl) hs')
    KeepBut.trans (KeepBut.put (by omega)) (Below.refl _ _) (fun _ => rfl)
    (fun pre W => (W.cell? ⟨w.heap.size + 1 + 1, 0, none⟩ = some (vi (fv (evPre pre (el p x)))) ∧ W.frozen? ⟨w.heap.size + 1 + 1, 0, none⟩ = false ∧ W.cell? ⟨w.heap.size, 0, none⟩ = some (.pointer (some ⟨b, 0, none⟩)) ∧ W.cell? ⟨w.heap.size + 1, 0, none⟩ = some (vi x)) ∧ Below w.heap.size w W)
    (fun _ _ _ => False)
    (OwnFrom.and (Own.from (fun s A B row hs hg hr => ⟨cell_kept hs.1 hg hr, (frozen_kept hs.1 hg hr).trans hs.2.1, cell_kept hs.2.2.1 hg hr, cell_kept hs.2.2.2 hg hr⟩) _) (ownFrom_below (Nat.le_refl _) (by omega)))
    (fun _ _ _ _ _ hs _ _ => hs)
    ⟨⟨by rw [bS.cell]; rfl, bS.frozen 0, by rw [bF.cell]; rfl, by rw [bX.cell]; rfl⟩, hbel⟩
    (fun y => { tmps := #[.pointer (some ⟨b, 0, none⟩), .slice A zs.length cap, vi x, .pointer (some ⟨w.heap.size, 0, none⟩), undef, .pointer (some ⟨w.heap.size + 1, 0, none⟩), .int .i64 0, .pointer (some ⟨w.heap.size + 1 + 1, 0, none⟩), undef, vi y.2.1, .slice A zs.length cap, .func (.func 136) #[] #[.pointer (some ⟨w.heap.size + 1 + 1 + 1, 0, none⟩)], vi y.1, vi y.2.1, undef, undef, undef, undef, undef, undef, undef, undef], defers := [] }) ?assign ?body ?done ?stop
  case assign =>
    intro l y W K hK
    gi_wp2
    exact hK
  case body =>
    rintro l pre y W ⟨⟨hc, hf, hcf, hcx⟩, hB⟩ _
    have hy := y.2.2
    have hc0 : W.cell? ⟨b, 0, none⟩ = some (vi p) := (hB.cell (p := ⟨b, 0, none⟩) (Nat.lt_of_lt_of_le F.lt F.le)).trans F.c0
    have i1 := i64_fv (evPre pre (el p x)) hp2
    have i2 := i64_fv (el p (fv (evPre pre (el p x))) * el p x) hp2
    have h1' : 1 ≤ 3 - 1 - 1 := by omega
    have hmx : Tryz.prog.follows .mixedOrders = true := by kernel_rfl
    gi_wp2
    refine wpIn_region_quiet_tail 7 hmx (by kernel_rfl) (by rintro ⟨_, _, h⟩; exact h) (by kernel_rfl) ?_
    simp only [List.take_succ_cons, List.take_zero, List.drop_succ_cons, List.drop_zero]
    repeat (quiet_step (first
      | (go_at_call 75; exact Calls.quiet_of (mul_any p hp2 b _ _ i1 hx _ (by exact hc0)))
      | (go_at_call 73; exact Calls.quiet_of (add_any p hp2 b _ _ i2 hy _ (by exact hc0)))))
    refine wpQuiet_nil ?_
    intro _ hw'
    obtain ⟨nq, hw''⟩ := hw'
    subst hw''
    go_wp2
    have hk1 : KeepsOthers W (W.drewN nq) := ⟨Nat.le_refl _, fun _ _ h _ => h⟩
    refine ⟨(hk1.trans (KeepsOthers.setCell _ _ _)).from _, ((KeepBut.refl _ (w.heap.size + 1 + 1) W).drewN nq).setCell (p := ⟨w.heap.size + 1 + 1, 0, none⟩) rfl _, ⟨?_, ?_, ?_, ?_⟩, (below_drewN hB nq).setCell (by simp; omega) _⟩
    · rw [evPre_snoc, el_fv, el_fv]
      exact World.cell?_setCell_same' _ _ _ (by rw [show (W.drewN nq).cell? ⟨w.heap.size + 1 + 1, 0, none⟩ = W.cell? ⟨w.heap.size + 1 + 1, 0, none⟩ from rfl, hc]; rfl)
    · rw [World.frozen?_setCell]; exact hf
    · rw [World.cell?_setCell_other _ _ _ _ (by simp)]; exact hcf
    · rw [World.cell?_setCell_other _ _ _ _ (by simp)]; exact hcx
  case done =>
    rintro D ys W hD rfl ⟨⟨hc, _⟩, hB⟩ hK
    gi_wp2
    refine ⟨by simp, .inl ⟨_, _, rfl, run_takeDeferred hK, ?_⟩⟩
    have he : evPre (upto (backF zs) zs.length) (el p x) = ev (zs.map (fun y => el p y.1)) (el p x) := by rw [evPre_upto zs _ _ (Nat.le_refl _), Nat.sub_self, List.drop_zero]
    rw [he]
    exact ⟨_, results_tmp rfl _ _ _, rfl, hB.trans (belowK_b (w := w) (Nat.le_refl _) W D _ _ (by omega) hK rfl rfl)⟩
  case stop =>
    rintro D c pre W _ _ h _
    exact h.elim
theorem eval_any (p : Nat) [NeZero p] (S b : Nat) (A : Option Addr) (cap : Nat) (xs : List Int) (hxs : ∀ n ∈ xs, I64 n) (hreach : xs.length * 8 ≤ 140737488351232) (x : Int) (hx : I64 x) (w : World) (F : Fld w S b p) (hs : SL w A xs) :
    Calls Tryz.prog 96 #[.pointer (some ⟨b, 0, none⟩), .slice A xs.length cap, vi x] w fun e w' => e = .returned (vi (fv (ev (xs.map (el p)) (el p x)))) ∧ Below w.heap.size w w' := by
  obtain ⟨zs, rfl⟩ := exists_subtype xs hxs
  rw [List.length_map] at hreach ⊢
  have h := eval_sub p S b A cap zs hreach x hx w F hs
  rw [List.map_map]
  exact h
end Go.Proofs.YteceghbjjnknbaaGreat

namespace Go.Proofs.YteceghbjjnknbaaGreat
open Go.RowKit Go.Shelf Zp
attribute [local go_sem] Oper.semAt_some
def noOut (Q : Exit → Act → World → Prop) : Exit → Act → World → Prop
  | .outgrown, _, _ => False
  | .normal, a, w => Q .normal a w
  | .ret, a, w => Q .ret a w
  | .exit id, a, w => Q (.exit id) a w
  | .goto t, a, w => Q (.goto t) a w
  | .panic v, a, w => Q (.panic v) a w
theorem noOut_normal (Q : Exit → Act → World → Prop) (a : Act) (w : World) : noOut Q .normal a w = Q .normal a w := rfl
theorem wpIn_region_quiet_tail_lp {P : Program} {id : Nat} {Q : Exit → Act → World → Prop} {a : Act} {w : World} {l : List Oper} {lp m : Nat} (n : Nat) (hm : P.follows .mixedOrders = true) (hd : noDefer l.toArray = true) (hB : Region.lexTailB .any l.toArray n = true)
    (h : wpQuiet P l.toArray (fun w' => ∃ n, w' = w.drewN n) (fun a' => ∀ w', (∃ n, w' = w.drewN n) → wpList P l.toArray (noOut Q) (l.drop n) a' w') (l.take n) a) : (Code.region id l.toArray true).wpIn (Fence.wide.inRound lp) m P Q a w :=
  wpIn_mono (wpIn_region_quiet_tail n hm hd (by rintro ⟨_, _, h⟩; exact h) hB h) fun e a w h => by
    cases e <;> first | exact h | exact h.elim
def chunkV (ad : Addr) (t : Nat) : Value := .slice (some (ad.add (4 * t))) 4 4
def chF {c : Nat} (hc : 0 < c) (k : Nat) : Fin c := if h : k < c then ⟨k, h⟩ else ⟨0, hc⟩
theorem chF_val {c : Nat} (hc : 0 < c) {k : Nat} (h : k < c) : (chF hc k).1 = k := by unfold chF; rw [dif_pos h]
set_option maxRecDepth 100000 in
set_option maxHeartbeats 2000000 in
theorem chunk1_in (n : Nat) (hn : 1 ≤ n) (l Bs Bn n₀ g : Nat) (hBg : Bs ≠ g) (hNg : Bn ≠ g) (ad : Addr) (len c cp : Nat) (hc0 : 0 < c) (hlen : len = 4 * c) (hcp : len ≤ cp) (hreach : cp ≤ 9223372036854775807)
    (J Jx : List (Fin c) → World → Prop) (B : Nat) (hJA : AbidesFrom B J)
    (hY : ∀ pre x W, J pre W → pre.length < c → YieldAt Fence.wide (n - 1) Tryz.prog l #[chunkV ad x.1] W fun e W' =>
      (e = .returned (.bool true) ∧ J (pre ++ [x]) W' ∧ KeepBut n₀ g W W') ∨ (e = .returned (.bool false) ∧ Jx (pre ++ [x]) W'))
    (W : World) (hBs : W.cell? ⟨Bs, 0, none⟩ = some (.slice (some ad) len cp)) (hBl : Bs < n₀) (hBn : W.cell? ⟨Bn, 0, none⟩ = some (vi 4)) (hNl : Bn < n₀) (h0 : J [] W) :
    CallsIn Fence.wide n Tryz.prog 112 #[.func (.yield l) #[] #[], .pointer (some ⟨Bs, 0, none⟩), .pointer (some ⟨Bn, 0, none⟩)] W fun e W' => (∃ v, e = .returned v) ∧
      ((∃ ys, ys = upto (chF hc0) c ∧ J ys W') ∨ (∃ pre, (∃ k, k ≤ c ∧ pre = upto (chF hc0) k) ∧ Jx pre W')) := by
  refine callsIn_of_wp Tryz.func112 rfl trivial ?_ rfl
  simp only [Tryz.ntmps112, List.size_toArray, List.length_cons, List.length_nil, Nat.reduceAdd, Nat.reduceSub, Array.replicate_succ, Array.replicate_zero, List.push_toArray, List.append_toArray, List.nil_append, List.cons_append]
  have HL := Lib.hid hlen
  clear hlen
  gi_wp2
  gi_loopw [4, 5] (fun i _ wr => ∃ k : Nat, k ≤ c ∧ i = .int .i64 ((4 * k : Nat) : Int) ∧ J (upto (chF hc0) k) wr ∧ KeepBut n₀ g W wr)
    (fun i _ _ => len - (intOf i).toNat)
  case atStart => exact ⟨0, Nat.zero_le _, by go_num, h0, KeepBut.refl _ _ _⟩
  case round =>
    obtain ⟨k, hk, rfl, hJs, hnx⟩ := hrel
    have hBs' : wr.cell? ⟨Bs, 0, none⟩ = some (.slice (some ad) len cp) := (hnx.cell (p := ⟨Bs, 0, none⟩) hBl hBg).trans hBs
    have hBn' : wr.cell? ⟨Bn, 0, none⟩ = some (vi 4) := (hnx.cell (p := ⟨Bn, 0, none⟩) hNl hNg).trans hBn
    obtain ⟨q, hq⟩ : ∃ q : Nat, q = 4 * k := ⟨_, rfl⟩
    rw [← hq]
    have HQ := Lib.hid hq
    have hqc : q < 4 * c ↔ k < c := by omega
    have hl4 := HL.out
    by_cases hlt : k < c
    · have i1 : (0 : Int) ≤ (q : Int) := by omega
      have i2 : (q : Int) < (len : Int) := by omega
      have i3 : (q : Int) ≤ (len : Int) := by omega
      have i4 : (q : Int) + 4 ≤ (len : Int) := by omega
      have i5 : (4 : Int) ≤ (len : Int) - (q : Int) := by omega
      have i6 : (len : Int) ≤ (cp : Int) := by omega
      clear hq hqc hl4
      gi_wp2
      gi_quiet (fail)
      have hJq : J (upto (chF hc0) k) (wr.drewN nq) := hJA _ _ _ none hJs ⟨rfl, rfl, rfl, Nat.le_refl _, fun _ _ _ => rfl⟩ (fun r e => by cases e)
      obtain ⟨fn, tmps, assign, body, hy, hR⟩ := hY _ (chF hc0 k) (wr.drewN nq) hJq (by rw [upto_length]; exact hlt)
      rw [show chunkV ad (chF hc0 k).1 = Value.slice (some (ad.add q)) 4 4 by unfold chunkV; rw [chF_val hc0 hlt, HQ.out]] at hy
      gi_wp2
      refine hR.mono ?_
      rintro e W3 (⟨rfl, hJ3, hk3⟩ | ⟨rfl, hJx3⟩)
      · have hBn3 : W3.cell? ⟨Bn, 0, none⟩ = some (vi 4) := (hk3.cell (p := ⟨Bn, 0, none⟩) hNl hNg).trans hBn'
        gi_wp2
        have hq1 := HQ.out
        go_roundw
        case rel => exact ⟨k + 1, by omega, by rw [show ((4 * (k + 1) : Nat) : Int) = (q : Int) + 4 by omega], by rw [upto_succ]; exact hJ3, (hnx.drewN nq).trans hk3⟩
        case measure => simp [intOf]; omega
      · gi_wp2
        refine bodyPost_ret (results_none rfl _ _ _) rfl ?_
        exact ⟨⟨_, rfl⟩, .inr ⟨_, ⟨k + 1, by omega, by rw [upto_succ]⟩, hJx3⟩⟩
    · have ek : k = c := by omega
      have t1 : ¬ (q : Int) < (len : Int) := by omega
      subst ek
      clear hq hqc hl4
      gi_wp2
      go_end0
      first | exact ⟨⟨_, rfl⟩, .inl ⟨_, rfl, hJs⟩⟩ | exact ⟨⟨_, rfl⟩, .inl hJs⟩
set_option maxHeartbeats 1000000 in
theorem chunk_any (a : Option Addr) (len cap : Nat) (w : World) :
    Calls Tryz.prog 83 #[.slice a len cap, .int .i64 4] w fun e w' => e = .returned (.func (.func 112) #[] #[.pointer (some ⟨w.heap.size, 0, none⟩), .pointer (some ⟨w.heap.size + 1, 0, none⟩)]) ∧ w' = (w.alloc (.cells #[.slice a len cap] 25)).alloc (.cells #[.int .i64 4] 3) := by
  go_enter Tryz.func83, Tryz.ntmps83
  go_wp2
  go_ret
  exact ⟨rfl, rfl⟩
theorem chunk_stops (n : Nat) (hn : 1 ≤ n) (Bs Bn n₀ g : Nat) (hBg : Bs ≠ g) (hNg : Bn ≠ g) (ad : Addr) (len c cp : Nat) (hc0 : 0 < c) (hlen : len = 4 * c) (hcp : len ≤ cp) (hreach : cp ≤ 9223372036854775807) (w : World) (hBs : Bs < w.heap.size) (hBl : Bs < n₀) (hBn : Bn < w.heap.size) (hNl : Bn < n₀)
    (hc : w.cell? ⟨Bs, 0, none⟩ = some (.slice (some ad) len cp)) (hc2 : w.cell? ⟨Bn, 0, none⟩ = some (vi 4)) :
    SeqStopsK Fence.wide n Tryz.prog 112 #[.pointer (some ⟨Bs, 0, none⟩), .pointer (some ⟨Bn, 0, none⟩)] (fun x : Fin c => #[chunkV ad x.1]) (KeepBut n₀ g) (fun ys => ys = upto (chF hc0) c)
      (fun pre => ∃ k, k ≤ c ∧ pre = upto (chF hc0) k) c w := fun l J Jx W hW hA _ hY h0 =>
  chunk1_in n hn l Bs Bn n₀ g hBg hNg ad len c cp hc0 hlen hcp hreach J Jx _ hA hY W ((hW.cell (p := ⟨Bs, 0, none⟩) hBs).trans hc) hBl ((hW.cell (p := ⟨Bn, 0, none⟩) hBn).trans hc2) hNl h0
theorem blk_kept {W W' : World} {row : Option Nat} {g : Nat} {t : TypeId} {cs : Array Value} (h : Blk W g t cs) (hg : W.grownBy W' row) (hr : ∀ r, row = some r → ∃ o : Obj, W.heap[r]? = some o ∧ o.isCells = false) : Blk W' g t cs := by
  refine (hg.block g h.lt fun e => ?_).trans h
  obtain ⟨o, ho, hc⟩ := hr g e.symm
  unfold Blk at h
  rw [h] at ho
  injection ho with ho
  subst ho
  cases hc
theorem keeps_below {W W' : World} (h : Below W.heap.size W W') : KeepsOthers W W' := ⟨h.size, fun k o hk _ => (h.block k (Array.getElem?_eq_some_iff.1 hk).1).trans hk⟩
theorem keeps_setRow {W : World} {g : Nat} {t : TypeId} {cs : Array Value} (h : Blk W g t cs) (ds : Array Value) : KeepsOthers W (W.setRow g ds) := ⟨by rw [setRow_size]; exact Nat.le_refl _, fun k o hk hc => by
  by_cases e : k = g
  · subst e
    unfold Blk at h
    rw [h] at hk
    injection hk with hk
    subst hk
    cases hc
  · exact (setRow_other W g k ds e).trans hk⟩
theorem KeepBut.below {n₀ g : Nat} {A B C : World} (h : KeepBut n₀ g A B) (hb : Below B.heap.size B C) (hn : n₀ ≤ B.heap.size) : KeepBut n₀ g A C := fun k hk hg => (hb.block k (by omega)).trans (h k hk hg)
theorem KeepBut.setRow {n₀ g : Nat} {A B : World} (h : KeepBut n₀ g A B) (cs : Array Value) : KeepBut n₀ g A (B.setRow g cs) := fun k hk hg => (setRow_other B g k cs hg).trans (h k hk hg)
def hashL {p c : Nat} [NeZero p] (k : Nat) (m : Nat → Fin p) (pre : List (Fin c)) : Nat → Fin p := pre.foldl (fun v x => permT k (absT v m x.1) 8) (fun _ => 0)
theorem hashL_snoc {p c : Nat} [NeZero p] (k : Nat) (m : Nat → Fin p) (pre : List (Fin c)) (x : Fin c) : hashL k m (pre ++ [x]) = permT k (absT (hashL k m pre) m x.1) 8 := by simp [hashL]
theorem hashL_upto {p c : Nat} [NeZero p] (hc : 0 < c) (k : Nat) (m : Nat → Fin p) : ∀ t, t ≤ c → hashL k m (upto (chF hc) t) = hashT k m t := by
  intro t
  induction t with
  | zero => intro _; rfl
  | succ t ih => intro ht; rw [upto_succ, hashL_snoc, ih (by omega), chF_val hc (by omega)]; rfl
def HashIs {p : Nat} [NeZero p] (D : Nat → Fin p) (w : World) (e : Ending) (w' : World) : Prop :=
  ∃ g : Nat, e = .returned (.slice (some ⟨g, 0, none⟩) 4 4) ∧ Blk w' g 66 (st fun j => fv (D j)) ∧ w.heap.size ≤ g ∧ Below w.heap.size w w'
set_option maxRecDepth 100000 in
set_option maxHeartbeats 4000000 in
theorem hash_any (p S b s k z : Nat) [NeZero p] (oo : Nat → Nat → Fin p) (A : Option Addr) (n c : Nat) (l : List Int) (hn : l.length = n) (hI : ∀ x ∈ l, I64 x) (hr : n * 8 + 64 ≤ 140737488355328) (w : World) (F : Fld w S b p) (G : Spg w s b k z oo) (hs : SL w A l) :
    Calls Tryz.prog 77 #[.pointer (some ⟨s, 0, none⟩), .slice A n c] w fun e w' => HashIs (digE p k l) w e w' := by
  refine (callsIn_wide (n := 3)).1 ?_
  have hro : (Fence.wide).round = none := rfl
  have h1 : 1 ≤ 3 := by omega
  have hp1 := F.two
  have hp2 := F.max
  have hsl := block_lt_of_cell G.c0
  have hba : Below w.heap.size w ((w.alloc (.cells #[.pointer (some ⟨s, 0, none⟩)] 27)).alloc (.cells (st fun _ => 0) 66)) := ((Below.refl _ _).alloc (Nat.le_refl _) _).alloc (by simp) _
  have hBs := (Blk.new w 27 #[.pointer (some ⟨s, 0, none⟩)]).alloc (.cells (st fun _ => 0) 66)
  have hBx := Blk.new (w.alloc (.cells #[.pointer (some ⟨s, 0, none⟩)] 27)) 66 (st fun _ => 0)
  rw [World.size_alloc] at hBx
  have HPAD := Lib.hid (pad_new p S b s k z oo A n c l hn hI hr _ (F.below hba F.le) (G.below hba hsl) (hs.below hba))
  have hszA : ((w.alloc (.cells #[.pointer (some ⟨s, 0, none⟩)] 27)).alloc (.cells (st fun _ => 0) 66)).heap.size = w.heap.size + 2 := by simp
  obtain ⟨Wa, hWa⟩ : ∃ Wa : World, Wa = (w.alloc (.cells #[.pointer (some ⟨s, 0, none⟩)] 27)).alloc (.cells (st fun _ => 0) 66) := ⟨_, rfl⟩
  rw [← hWa] at hba hBs hBx HPAD hszA
  have HWA := Lib.hid hWa
  have hlM : (padL (fvs (els p l))).length = 4 * padC n := by rw [padC_len, show (fvs (els p l)).length = l.length by simp [fvs, els], hn]
  have hEM := fun j hj => padE_at hp1 l (j := j) hj
  obtain ⟨m, hm⟩ : ∃ m, m = padE p l := ⟨_, rfl⟩
  rw [← hm] at hEM
  obtain ⟨M, hM⟩ : ∃ M, M = padL (fvs (els p l)) := ⟨_, rfl⟩
  have hEM' : ∀ j (hj : j < M.length), M[j] = fv (m j) := by subst hM; exact hEM
  rw [← hM] at hlM HPAD
  have hdig : digE p k l = hashT k m (padC n) := by unfold digE; rw [hn, hm]
  rw [hdig]
  have hc0 : 1 ≤ padC n := by unfold padC padN; omega
  have hcn : 4 * padC n ≤ n + 4 := by unfold padC padN; omega
  obtain ⟨C, hC⟩ : ∃ C, C = padC n := ⟨_, rfl⟩
  rw [← hC] at hlM hc0 hcn ⊢
  have HLM := Lib.hid hlM
  have HEM := Lib.hid hEM'
  clear hWa hEM hEM' hM hm hlM hdig hC hs hI hn
  refine callsIn_of_wp_marks Tryz.func77 rfl trivial ?_ hro
  simp only [Tryz.ntmps77, List.size_toArray, List.length_cons, List.length_nil, Nat.reduceAdd, Nat.reduceSub, Array.replicate_succ, Array.replicate_zero, List.push_toArray, List.append_toArray, List.nil_append, List.cons_append]
  gi_wp2_with (fail)
  refine ⟨trivial, ?_⟩
  rw [← st_zero, ← HWA.out]
  refine (callsIn_wide.2 HPAD.out).mono ?_
  rintro _ w2 ⟨A2, c2, rfl, hc2, hm2, hS2, hb2, hfr⟩
  obtain ⟨len, hlen⟩ : ∃ len, len = M.length := ⟨_, rfl⟩
  rw [← hlen] at hc2 ⊢
  have hlen4 : len = 4 * C := by rw [hlen, HLM.out]
  obtain ⟨ad, rfl, had, hcM⟩ := hS2.2 (by omega)
  have HLEN := Lib.hid hlen
  have HL4 := Lib.hid hlen4
  have HCM := Lib.hid hcM
  have hfr2 := hfr ad rfl
  clear hlen hlen4 hcM hS2 hfr
  gi_wp2_with (refine ⟨trivial, ?_⟩; gi_at_call 83; refine (callsIn_wide.2 (chunk_any _ _ _ _)).mono ?_; rintro e w' ⟨rfl, rfl⟩)
  obtain ⟨W0, hW0⟩ : ∃ W0 : World, W0 = (w2.alloc (.cells #[.slice (some ad) len c2] 25)).alloc (.cells #[.int .i64 4] 3) := ⟨_, rfl⟩
  have hsz : W0.heap.size = w2.heap.size + 2 := by rw [hW0]; simp
  have hb20 : Below w2.heap.size w2 W0 := by rw [hW0]; exact ((Below.refl _ w2).alloc (Nat.le_refl _) _).alloc (by simp) _
  have hba2 := hba.trans (hb2.mono hba.size)
  have hbel : Below w.heap.size w W0 := hba2.trans (hb20.mono hba2.size)
  have hb02 := hb2.size
  have bS : Blk W0 w.heap.size 27 #[.pointer (some ⟨s, 0, none⟩)] := (Blk.below (Blk.below (HWA.out ▸ hBs) hb2 (by omega)) hb20 (by omega))
  have bX : Blk W0 (w.heap.size + 1) 66 (st fun _ => 0) := (Blk.below (Blk.below hBx hb2 (by omega)) hb20 (by omega))
  have bL : Blk W0 w2.heap.size 25 #[.slice (some ad) len c2] := by rw [hW0]; exact (Blk.new _ _ _).alloc _
  have bN : Blk W0 (w2.heap.size + 1) 3 #[.int .i64 4] := by
    rw [hW0]; have := Blk.new (w2.alloc (.cells #[.slice (some ad) len c2] 25)) 3 #[.int .i64 4]
    rw [World.size_alloc] at this; exact this
  have hcL : ∀ i, i < len → W0.cell? (ad.add i) = some (vi (fv (m i))) := fun i hi => by
    have hiM : i < M.length := by rw [← HLEN.out]; exact hi
    refine (hb20.cell (p := ad.add i) (by rw [block_of_add]; exact had)).trans ?_
    have := HCM.out i (vi M[i]) (by simp [hiM])
    rw [this, HEM.out i hiM]
  rw [← hW0]
  clear hW0
  have e00 : (st fun _ => 0) = st fun j => fv (hashL (p := p) k m ([] : List (Fin C)) j) := st_congr fun j _ => by
    show 0 = fv (0 : Fin p); rw [fv_zero]
  refine wpIn_rangeFunc_ownG hro h1 (gf := 112) (lb := #[.pointer (some ⟨w2.heap.size, 0, none⟩), .pointer (some ⟨w2.heap.size + 1, 0, none⟩)]) rfl trivial (enters_of Tryz.func112 (by kernel_rfl) rfl)
    (chunk_stops (3 - 1) (by omega) w2.heap.size (w2.heap.size + 1) (w2.heap.size + 2) (w.heap.size + 1) (by omega) (by omega) ad len C c2 hc0 HL4.out hc2 (by unfold maxLen at hm2; omega) W0 (by omega) (by omega) (by omega) (by omega) (by rw [bL.cell]; rfl) (by rw [bN.cell]; rfl))
    KeepBut.trans (KeepBut.put (by omega)) (Below.refl _ _) (fun _ => rfl)
    (fun pre W => (W.cell? ⟨w.heap.size, 0, none⟩ = some (.pointer (some ⟨s, 0, none⟩)) ∧ Blk W (w.heap.size + 1) 66 (st fun j => fv (hashL (p := p) k m pre j)) ∧ (∀ i, i < len → W.cell? (ad.add i) = some (vi (fv (m i)))) ∧ W0.heap.size ≤ W.heap.size) ∧ Below w.heap.size w W)
    (fun _ _ _ => False)
    (OwnFrom.and (Own.from (fun s A B row hs hg hr => ⟨cell_kept hs.1 hg hr, blk_kept hs.2.1 hg hr, fun i hi => cell_kept (hs.2.2.1 i hi) hg hr, Nat.le_trans hs.2.2.2 hg.size⟩) _) (ownFrom_below (Nat.le_refl _) (by omega)))
    (fun _ _ _ _ _ hs _ _ => hs)
    ⟨⟨by rw [bS.cell]; rfl, by rw [← e00]; exact bX, hcL, Nat.le_refl _⟩, hbel⟩
    (fun y => { tmps := #[.pointer (some ⟨s, 0, none⟩), .slice A n c, .pointer (some ⟨w.heap.size, 0, none⟩), undef, .slice none 0 0, .pointer (some ⟨w.heap.size + 1, 0, none⟩), .slice (some (ad.add (4 * y.1))) 4 4, undef, undef, .pointer (some ⟨s, 0, none⟩), .slice A n c, .slice (some ad) len c2, .func (.func 112) #[] #[.pointer (some ⟨w2.heap.size, 0, none⟩), .pointer (some ⟨w2.heap.size + 1, 0, none⟩)], .slice (some (ad.add (4 * y.1))) 4 4, undef, undef, undef, undef, undef, undef, undef, undef, undef, undef, undef, undef, undef, undef, undef, undef, undef, undef, undef, undef, undef, undef, undef], defers := [] }) ?assign ?body ?done ?stop
  case assign =>
    intro l y W K hK
    gi_wp2
    exact hK
  case body =>
    rintro l pre y W ⟨⟨hcs, hBx, hcM, hszW⟩, hB⟩ _
    have h1' : 1 ≤ 3 - 1 - 1 := by omega
    have hmx : Tryz.prog.follows .mixedOrders = true := by kernel_rfl
    obtain ⟨Y, hY⟩ : ∃ Y : Nat, Y = y.1 := ⟨_, rfl⟩
    have hYC : Y < C := by rw [hY]; exact y.2
    obtain ⟨V, hV⟩ : ∃ V : Nat → Fin p, V = hashL k m pre := ⟨_, rfl⟩
    rw [← hY]
    rw [← hV, show (fun j => fv (V j)) = absI V m Y 0 by rw [absI_zero]] at hBx
    have HY := Lib.hid hY
    have HV := Lib.hid hV
    have hl4 := HL4.out
    have hY4 : ∀ i, i < 4 → W.cell? (ad.add (4 * Y + i)) = some (vi (fv (m (4 * Y + i)))) := fun i hi => hcM _ (by omega)
    have HYM := Lib.hid hY4
    clear hY hV hl4 hY4
    gi_wp2
    gi_loopw [16, 7, 8] (fun t _ _ wr => ∃ i : Nat, i ≤ 4 ∧ t = vi i ∧ Blk wr (w.heap.size + 1) 66 (st (absI V m Y i)) ∧ KeepsOthers W wr ∧ KeepBut (w2.heap.size + 2) (w.heap.size + 1) W wr ∧ Below w.heap.size w wr) (fun t _ _ _ => 4 - (intOf t).toNat)
    case atStart => exact ⟨0, by omega, rfl, hBx, KeepsOthers.refl _, KeepBut.refl _ _ _, hB⟩
    case round =>
      clear hBx
      obtain ⟨i, hi, rfl, hBx, hko, hkb, hB⟩ := hrel
      by_cases hi4 : i < 4
      · have i1 : (0 : Int) ≤ (i : Int) := by omega
        have i2 : (i : Int) < 4 := by omega
        have i3 : (i : Int) < 8 := by omega
        have hbs : w.heap.size < w2.heap.size + 2 := by omega
        have hcr : wr.cell? ⟨w.heap.size, 0, none⟩ = some (.pointer (some ⟨s, 0, none⟩)) := (hkb.cell (p := ⟨w.heap.size, 0, none⟩) hbs (by show w.heap.size ≠ w.heap.size + 1; omega)).trans hcs
        have hs0 : wr.cell? ⟨s, 0, none⟩ = some (.pointer (some ⟨b, 0, none⟩)) := (hB.cell (p := ⟨s, 0, none⟩) hsl).trans G.c0
        have hc0 : wr.cell? ⟨b, 0, none⟩ = some (vi p) := (hB.cell (p := ⟨b, 0, none⟩) (Nat.lt_of_lt_of_le F.lt F.le)).trans F.c0
        have hcy : wr.cell? ((ad.add (4 * Y)).add i) = some (vi (fv (m (4 * Y + i)))) := by
          rw [add_of_add]
          exact (hkb.cell (p := ad.add (4 * Y + i)) (by rw [block_of_add]; omega) (by rw [block_of_add]; omega)).trans (HYM.out i hi4)
        have cX := hBx.at8 (show i < 8 by omega)
        have fX := hBx.frozen i
        rw [absI_at] at cX
        have hst := absI_step V m Y i
        obtain ⟨E, hE⟩ : ∃ E, E = m (4 * Y + i) := ⟨_, rfl⟩
        rw [← hE] at hcy hst
        obtain ⟨X, hX⟩ : ∃ X, X = V i := ⟨_, rfl⟩
        rw [← hX] at cX hst
        have hadd := fun W hc => add_any p hp2 b (fv X) (fv E) (i64_fv _ hp2) (i64_fv _ hp2) W hc
        rw [el_fv, el_fv] at hadd
        obtain ⟨U, hU⟩ : ∃ U, U = X + E := ⟨_, rfl⟩
        rw [← hU] at hadd hst
        have hset := fun nq => (hBx.drewN nq).set8 (show i < 8 by omega) (fv U)
        rw [hst] at hset
        have HADD := Lib.hid hadd
        have HSET := Lib.hid hset
        have HKO := Lib.hid hko
        have HKB := Lib.hid hkb
        have HB := Lib.hid hB
        clear hadd hset hst hE hX hU hBx hko hkb hB
        gi_wp2
        refine wpIn_region_quiet_tail_lp 11 hmx (by kernel_rfl) (by kernel_rfl) ?_
        simp only [List.take_succ_cons, List.take_zero, List.drop_succ_cons, List.drop_zero]
        repeat (quiet_step ((go_at_call 73; exact Calls.quiet_of (HADD.out _ (by exact hc0)))))
        refine wpQuiet_nil ?_
        intro _ hw'
        obtain ⟨nq, hw''⟩ := hw'
        subst hw''
        go_wp2
        have hq1 := HSET.out nq
        have hq2 := (HKO.out.trans (⟨Nat.le_refl _, fun _ _ h _ => h⟩ : KeepsOthers wr (wr.drewN nq))).trans (KeepsOthers.setCell (wr.drewN nq) ⟨w.heap.size + 1, i, none⟩ (vi (fv U)))
        have hq3 := (HKB.out.drewN nq).setCell (p := ⟨w.heap.size + 1, i, none⟩) rfl (vi (fv U))
        have hq4 := (below_drewN HB.out nq).setCell (p := ⟨w.heap.size + 1, i, none⟩) (by show w.heap.size ≤ w.heap.size + 1; omega) (vi (fv U))
        rw [noOut_normal]
        gi_wp2
        go_roundw
        case rel => exact ⟨i + 1, by omega, by go_num, hq1, hq2, hq3, hq4⟩
        case measure => simp [intOf]; omega
      · have ei : i = 4 := by omega
        rw [ei] at hBx
        have t4 : ¬ (i : Int) < 4 := by omega
        clear ei
        have hbs : w.heap.size < w2.heap.size + 2 := by omega
        have hcr : wr.cell? ⟨w.heap.size, 0, none⟩ = some (.pointer (some ⟨s, 0, none⟩)) := (hkb.cell (p := ⟨w.heap.size, 0, none⟩) hbs (by show w.heap.size ≠ w.heap.size + 1; omega)).trans hcs
        obtain ⟨X, hX⟩ : ∃ X, X = absI V m Y 4 := ⟨_, rfl⟩
        rw [← hX] at hBx
        have hXE : ∀ j, el p (X j) = absT V m Y j := by rw [hX]; exact fun j => absI_done V m Y j
        have hXI : ∀ j, I64 (X j) := by rw [hX]; exact fun j => i64_absI hp2 V m Y 4 j
        have x0 := hBx.at8 (show 0 < 8 by omega)
        have x1 := hBx.at8 (show 1 < 8 by omega)
        have x2 := hBx.at8 (show 2 < 8 by omega)
        have x3 := hBx.at8 (show 3 < 8 by omega)
        have x4 := hBx.at8 (show 4 < 8 by omega)
        have x5 := hBx.at8 (show 5 < 8 by omega)
        have x6 := hBx.at8 (show 6 < 8 by omega)
        have x7 := hBx.at8 (show 7 < 8 by omega)
        have HP := Lib.hid (permuted_any p S b s k z oo X hXI wr (F.below hB F.le) (G.below hB hsl))
        have hres : (st fun i => fv (permT (p := p) k (fun j => el p (X j)) 8 i)) = st fun j => fv (hashL k m (pre ++ [y]) j) := st_congr fun j hj => by
          show fv (permT k _ 8 j) = fv (hashL k m (pre ++ [y]) j)
          rw [hashL_snoc, ← HV.out, ← HY.out, permT_congr k (u := fun j => el p (X j)) (v := absT V m Y) (fun i' _ => hXE i') 8 j hj]
        rw [hres] at HP
        have HBX := Lib.hid hBx
        have HKO := Lib.hid hko
        have HKB := Lib.hid hkb
        have HB := Lib.hid hB
        obtain ⟨R, hR⟩ : ∃ R : Nat → Int, R = fun j => fv (hashL k m (pre ++ [y]) j) := ⟨_, rfl⟩
        rw [← hR] at HP
        have HR := Lib.hid hR
        rw [st_lit X] at HP
        clear hres hX hXI hXE hBx hko hkb hB hR
        gi_wp2_with (fail)
        refine ⟨trivial, (CallsIn.inRound l (callsIn_wide.2 HP.out)).mono ?_⟩
        rintro _ w3 ⟨rfl, hb3⟩
        have h3 := Blk.below HBX.out hb3 HBX.out.lt
        have HB3 := Lib.hid hb3
        clear hb3 x0 x1 x2 x3 x4 x5 x6 x7 hcr
        gi_wp2_with (refine wpListIn_plain rfl fun K hK => operIn_of_wp (by intro c h; cases h) (wp_store_row 66 _ _ rfl (w.heap.size + 1) (st R) rfl rfl _ _ h3 (info8 _) (by rw [st_size, st_size]) (st_one _) (hK _ _ ?_)))
        have hbB : Below w.heap.size w w3 := HB.out.trans (HB3.out.mono HB.out.size)
        have hkb3 : KeepBut (w2.heap.size + 2) (w.heap.size + 1) W (w3.setRow (w.heap.size + 1) (st R)) := (HKB.out.below HB3.out (by have := HKO.out.size; omega)).setRow _
        have hko3 : KeepsOthers W (w3.setRow (w.heap.size + 1) (st R)) := (HKO.out.trans (keeps_below HB3.out)).trans (keeps_setRow h3 _)
        have hBR : Blk (w3.setRow (w.heap.size + 1) (st R)) (w.heap.size + 1) 66 (st R) := setRow_heap _ _ _ _ _ _ h3
        refine ⟨hko3.from _, hkb3, ⟨(hkb3.cell (p := ⟨w.heap.size, 0, none⟩) hbs (by show w.heap.size ≠ w.heap.size + 1; omega)).trans hcs, by rw [← HR.out]; exact hBR, fun i' hi' => (hkb3.cell (p := ad.add i') (by rw [block_of_add]; omega) (by rw [block_of_add]; omega)).trans (hcM i' hi'), ?_⟩, below_setRow8 hbB (by omega) _⟩
        have := hko3.size
        omega
  case done =>
    rintro D ys W hD rfl ⟨⟨_, hBx, _, _⟩, hB⟩ hK
    rw [hashL_upto hc0 k m C (Nat.le_refl _)] at hBx
    gi_wp2
    refine ⟨by simp, .inl ⟨_, _, rfl, run_takeDeferred hK, ?_⟩⟩
    have hbD : ∀ B : Nat, B ≤ W0.heap.size → ∀ o', Below B W (W.putObj D o') := fun B hBB o' => belowK_b (n₀ := B) (w := W0) hBB W D _ o' hD hK rfl rfl
    exact ⟨_, results_tmp rfl _ _ _, w.heap.size + 1, rfl, hBx.below (hbD W0.heap.size (Nat.le_refl _) _) (by omega), by omega, hB.trans (hbD w.heap.size (by omega) _)⟩
  case stop =>
    rintro D c pre W _ _ h _
    exact h.elim
end Go.Proofs.YteceghbjjnknbaaGreat
