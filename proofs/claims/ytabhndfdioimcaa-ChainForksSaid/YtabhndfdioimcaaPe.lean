/- The walks of Sponge.Constant and Sponge.permuted; what stirring makes. -/
import Derived.Test.YtabhndfdioimcaaLi
set_option linter.unusedVariables false
namespace Go.Proofs.Ytabhndfdioimcaa
open Go.RowKit Zp

section
variable {p : Nat} [NeZero p]
/-- what is added in a round, at a place -/
def cstT (p : Nat) [NeZero p] (r i : Nat) : Fin p := pw (el p ((8 * r + i + 1 : Nat) : Int)) 5 + el p 3
/-- a state that went through r rounds -/
def permT (k : Nat) (v : Nat → Fin p) : Nat → Nat → Fin p
  | 0 => v
  | r + 1 => ap (cauchy p) fun i => pw (permT k v r i + cstT p r i) k
/-- .. as ints -/
def permI (k : Nat) (x : Nat → Int) (r j : Nat) : Int := if r = 0 then x j else fv (permT k (fun j => el p (x j)) r j)
theorem permI_zero (k : Nat) (x : Nat → Int) : permI (p := p) k x 0 = x := by funext j; simp [permI]
theorem permI_el (k : Nat) (x : Nat → Int) (r j : Nat) : el p (permI (p := p) k x r j) = permT k (fun j => el p (x j)) r j := by
  unfold permI
  by_cases h : r = 0
  · subst h; rw [if_pos rfl]; rfl
  · rw [if_neg h, el_fv]
theorem permI_i64 (hp2 : p ≤ 2147483647) (k : Nat) {x : Nat → Int} (hx : ∀ i, I64 (x i)) (r j : Nat) : I64 (permI (p := p) k x r j) := by
  unfold permI
  split
  · exact hx j
  · exact i64_fv _ hp2
/-- .. and i places more -/
def midI (k : Nat) (x : Nat → Int) (r i j : Nat) : Int := if j < i then fv (pw (permT (p := p) k (fun j => el p (x j)) r j + cstT p r j) k) else permI (p := p) k x r j
theorem midI_zero (k : Nat) (x : Nat → Int) (r : Nat) : midI (p := p) k x r 0 = permI (p := p) k x r := by funext j; simp [midI]
theorem midI_at (k : Nat) (x : Nat → Int) (r i : Nat) : midI (p := p) k x r i i = permI (p := p) k x r i := by simp [midI]
theorem midI_step (k : Nat) (x : Nat → Int) (r i : Nat) : st (upd (midI (p := p) k x r i) i (fv (pw (permT (p := p) k (fun j => el p (x j)) r i + cstT p r i) k))) = st (midI (p := p) k x r (i + 1)) := st_congr fun j _ => by
  unfold upd midI
  by_cases h : j = i
  · subst h; rw [if_pos rfl, if_pos (by omega)]
  · rw [if_neg h]
    by_cases h1 : j < i
    · rw [if_pos h1, if_pos (by omega)]
    · rw [if_neg h1, if_neg (by omega)]
theorem midI_i64 (hp2 : p ≤ 2147483647) (k : Nat) {x : Nat → Int} (hx : ∀ i, I64 (x i)) (r i j : Nat) : I64 (midI (p := p) k x r i j) := by
  unfold midI
  split
  · exact i64_fv _ hp2
  · exact permI_i64 hp2 k hx r j
theorem midI_done (k : Nat) (x : Nat → Int) (r : Nat) : st (fun a => fv (ap (cauchy p) (fun j => el p (midI (p := p) k x r 8 j)) a)) = st (permI (p := p) k x (r + 1)) := st_congr fun a _ => by
  unfold permI
  rw [if_neg (by omega)]
  show fv (ap (cauchy p) _ a) = fv (ap (cauchy p) _ a)
  congr 1
  refine ap_congr (fun _ _ => rfl) fun j hj => ?_
  unfold midI
  rw [if_pos hj, el_fv]
theorem zpw_nat (a : Fin p) (n : Nat) : zpw a (n : Int) = pw a n := by unfold zpw; rw [if_pos (by omega), Int.toNat_natCast]
theorem zpw_five (a : Fin p) : zpw a 5 = pw a 5 := zpw_nat a 5
end
/-- any place of any round -/
def cstI (p : Nat) [NeZero p] (r i : Int) : Int := if 0 ≤ r ∧ r < 8 ∧ 0 ≤ i ∧ i < 8 then fv (cstT p r.toNat i.toNat) else 0
theorem cstI_in (p : Nat) [NeZero p] {r i : Nat} (hr : r < 8) (hi : i < 8) : cstI p r i = fv (cstT p r i) := by
  unfold cstI; rw [if_pos (by omega), Int.toNat_natCast, Int.toNat_natCast]
set_option maxRecDepth 100000 in
set_option maxHeartbeats 2000000 in
theorem const_any (p b s : Nat) [NeZero p] (hp1 : 2 ≤ p) (hp2 : p ≤ 2147483647) (r i : Int) (hr : I64 r) (hi : I64 i) (w : World) (hs0 : w.cell? ⟨s, 0, none⟩ = some (.pointer (some ⟨b, 0, none⟩))) (hcb : w.cell? ⟨b, 0, none⟩ = some (vi p)) :
    Calls Try.prog 39 #[.pointer (some ⟨s, 0, none⟩), vi r, vi i] w fun e w' => e = .returned (vi (cstI p r i)) ∧ ∃ n, w' = w.drewN n := by
  by_cases h : 0 ≤ r ∧ r < 8 ∧ 0 ≤ i ∧ i < 8
  · obtain ⟨r1, r2, i1, i2⟩ := h
    have e1 : cstI p r i = fv (pw (el p (8 * r + i + 1)) 5 + el p 3) := by
      unfold cstI cstT; rw [if_pos ⟨r1, r2, i1, i2⟩]; congr 4; omega
    rw [e1]
    have hpow := fun W hc => pow_any p hp1 hp2 b (8 * r + i + 1) 5 (by constructor <;> omega) (by constructor <;> omega) W hc
    rw [zpw_five] at hpow
    obtain ⟨T, hT⟩ : ∃ T, T = pw (el p (8 * r + i + 1)) 5 := ⟨_, rfl⟩
    rw [← hT] at hpow ⊢
    have hadd := fun W hc => add_any p hp2 b (fv T) 3 (i64_fv _ hp2) (by constructor <;> omega) W hc
    rw [el_fv] at hadd
    have HP := Lib.hid hpow
    have HA := Lib.hid hadd
    obtain ⟨hr1, hr2⟩ := hr
    obtain ⟨hi1, hi2⟩ := hi
    clear hpow hadd hT e1
    go_enter Try.func39, Try.ntmps39
    go_wp2
    go_quiet (first | (go_at_call 38; exact Calls.quiet_of (HP.out _ (by assumption))) | (go_at_call 53; exact Calls.quiet_of (HA.out _ (by assumption))))
    go_wp2
    go_ret
    exact ⟨rfl, _, rfl⟩
  · have e1 : cstI p r i = 0 := by unfold cstI; rw [if_neg h]
    rw [e1]
    obtain ⟨hr1, hr2⟩ := hr
    obtain ⟨hi1, hi2⟩ := hi
    rcases (show r < 0 ∨ (0 ≤ r ∧ 8 ≤ r) ∨ (0 ≤ r ∧ r < 8 ∧ i < 0) ∨ (0 ≤ r ∧ r < 8 ∧ 0 ≤ i ∧ 8 ≤ i) by omega) with h1 | ⟨h1, h2⟩ | ⟨h1, h2, h3⟩ | ⟨h1, h2, h3, h4⟩
    all_goals
      clear h e1
      go_enter Try.func39, Try.ntmps39
      go_wp2
      go_ret
      exact ⟨rfl, 0, rfl⟩
def PermRel {p : Nat} [NeZero p] (k : Nat) (x : Nat → Int) (w : World) (t : Value) (wr : World) : Prop :=
  ∃ r : Nat, r ≤ 8 ∧ t = vi r ∧ Blk wr w.heap.size 59 (st (permI (p := p) k x r)) ∧ Blk wr (w.heap.size + 1) 59 (st fun _ => 0) ∧ Below w.heap.size w wr
def PermIn {p : Nat} [NeZero p] (k : Nat) (x : Nat → Int) (w : World) (r : Nat) (t : Value) (wr : World) : Prop :=
  ∃ i : Nat, i ≤ 8 ∧ t = vi i ∧ Blk wr w.heap.size 59 (st (midI (p := p) k x r i)) ∧ Blk wr (w.heap.size + 1) 59 (st fun _ => 0) ∧ Below w.heap.size w wr
set_option maxRecDepth 100000 in
set_option maxHeartbeats 4000000 in
theorem permuted_any (p S b s k z : Nat) [NeZero p] (oo : Nat → Nat → Fin p) (x : Nat → Int) (hx : ∀ i, I64 (x i)) (w : World) (F : Fld w S b p) (G : Spg w s b k z oo) :
    Calls Try.prog 35 #[.pointer (some ⟨s, 0, none⟩), .agg (st x)] w fun e w' => e = .returned (.agg (st fun i => fv (permT (p := p) k (fun j => el p (x j)) 8 i))) ∧ Below w.heap.size w w' := by
  have hp1 := F.two
  have hp2 := F.max
  have hsl := block_lt_of_cell G.c0
  have hb1 : Below w.heap.size w (w.alloc (.cells (st x) 59)) := (Below.refl _ _).alloc (Nat.le_refl _) _
  have hb2 := hb1.alloc hb1.size (.cells (st fun _ => 0) 59)
  have hB0 := (Blk.new w 59 (st x)).alloc (.cells (st fun _ => 0) 59)
  have hB1 := Blk.new (w.alloc (.cells (st x) 59)) 59 (st fun _ => 0)
  rw [World.size_alloc] at hB1
  have hkk : (k : Int) ≤ 2147483647 := by have := G.kp; omega
  have hmx : Try.prog.follows .mixedOrders = true := by kernel_rfl
  go_enter Try.func35, Try.ntmps35
  go_wp2
  go_loopw [7] (fun t wr => PermRel (p := p) k x w t wr) (fun t _ => 8 - (intOf t).toNat)
  case atStart => exact ⟨0, by omega, rfl, by rw [permI_zero]; exact hB0, hB1, hb2⟩
  case round =>
    obtain ⟨r, hr, rfl, h0, h1, hb⟩ := hrel
    clear hB0 hB1 hb1 hb2
    by_cases hr8 : r < 8
    · have r1 : (0 : Int) ≤ (r : Int) := by omega
      have r2 : (r : Int) < 8 := by omega
      rw [← midI_zero] at h0
      go_wp2
      go_loopw [10, 6] (fun t _ wr => PermIn (p := p) k x w r t wr) (fun t _ _ => 8 - (intOf t).toNat)
      case atStart => exact ⟨0, by omega, rfl, h0, h1, hb⟩
      case round =>
        clear h0 h1 hb
        obtain ⟨i, hi, rfl, h0, h1, hb⟩ := hrel
        by_cases hi8 : i < 8
        · have i1 : (0 : Int) ≤ (i : Int) := by omega
          have i2 : (i : Int) < 8 := by omega
          have hcr := (F.below hb F.le).c0
          have hGr := G.below hb hsl
          have hs0 := hGr.c0
          have hs1 := hGr.c1
          have cX := h0.at8 hi8
          have fX := h0.frozen i
          rw [midI_at] at cX
          have hst := midI_step (p := p) k x r i
          have hXI := permI_i64 (p := p) hp2 k hx r i
          have hXe := permI_el (p := p) k x r i
          obtain ⟨V, hV⟩ : ∃ V, V = permT (p := p) k (fun j => el p (x j)) r i := ⟨_, rfl⟩
          rw [← hV] at hst hXe
          generalize permI (p := p) k x r i = X at cX hXI hXe
          obtain ⟨C, hC⟩ : ∃ C, C = cstT p r i := ⟨_, rfl⟩
          have hcst := fun W ha hb => const_any p b s hp1 hp2 r i ⟨by omega, by omega⟩ ⟨by omega, by omega⟩ W ha hb
          rw [cstI_in p hr8 hi8, ← hC] at hcst
          obtain ⟨U, hU⟩ : ∃ U, U = V + C := ⟨_, rfl⟩
          have hadd := fun W hc => add_any p hp2 b X (fv C) hXI (i64_fv _ hp2) W hc
          rw [hXe, el_fv, ← hU] at hadd
          have hpow := fun W hc => pow_any p hp1 hp2 b (fv U) k (i64_fv _ hp2) ⟨by omega, by omega⟩ W hc
          rw [el_fv, zpw_nat] at hpow
          obtain ⟨T, hT⟩ : ∃ T, T = pw U k := ⟨_, rfl⟩
          rw [← hC, ← hU, ← hT] at hst
          rw [← hT] at hpow
          have hset := fun (W : World) (u : Fin p) (h : Blk W w.heap.size 59 (st (midI (p := p) k x r i))) => h.set8 hi8 (fv u)
          have HC := Lib.hid hcst
          have HA := Lib.hid hadd
          have HP := Lib.hid hpow
          have HST := Lib.hid hst
          have HSET := Lib.hid hset
          clear hcst hadd hpow hst hset hV hC hU hT hXI hXe hGr
          go_wp2
          refine wp_region_quiet_tail 23 hmx (by kernel_rfl) ?_
          simp only [List.take_succ_cons, List.take_zero, List.drop_succ_cons, List.drop_zero]
          repeat (quiet_step (first | (go_at_call 38; exact Calls.quiet_of (HP.out _ (by exact hcr))) | (go_at_call 53; exact Calls.quiet_of (HA.out _ (by exact hcr))) | (go_at_call 39; exact Calls.quiet_of (HC.out _ (by exact hs0) (by exact hcr)))))
          refine wpQuiet_nil ?_
          intro _ hw'
          obtain ⟨nq1, hw''⟩ := hw'
          subst hw''
          have q0 := HSET.out _ T (h0.drewN nq1)
          have q1 := (h1.drewN nq1).far (p := ⟨w.heap.size, i, none⟩) (by show w.heap.size + 1 ≠ w.heap.size; omega) (vi (fv T))
          have qb := (below_drewN hb nq1).setCell (p := ⟨w.heap.size, i, none⟩) (Nat.le_refl _) (vi (fv T))
          rw [HST.out] at q0
          go_wp2
          go_roundw
          case rel => exact ⟨i + 1, by omega, by go_num, q0, q1, qb⟩
          case measure => simp [intOf]; omega
        · have ei : i = 8 := by omega
          subst ei
          have hFr := F.below hb F.le
          have hGr := G.below hb hsl
          have hI := midI_i64 (p := p) hp2 k hx r 8
          have hdn := midI_done (p := p) k x r
          obtain ⟨X, hX⟩ : ∃ X, X = midI (p := p) k x r 8 := ⟨_, rfl⟩
          rw [← hX] at h0 hI hdn
          have x0 := h0.at8 (show 0 < 8 by omega)
          have x1 := h0.at8 (show 1 < 8 by omega)
          have x2 := h0.at8 (show 2 < 8 by omega)
          have x3 := h0.at8 (show 3 < 8 by omega)
          have x4 := h0.at8 (show 4 < 8 by omega)
          have x5 := h0.at8 (show 5 < 8 by omega)
          have x6 := h0.at8 (show 6 < 8 by omega)
          have x7 := h0.at8 (show 7 < 8 by omega)
          have HT := Lib.hid (fun n => times_any p S b s s 3 (cauchy p) X hI (wr.drewN n) (hFr.below (below_drewN (Below.refl _ _) n) hFr.le) hGr.c0 hGr.mat)
          obtain ⟨R, hR⟩ : ∃ R : Nat → Int, R = fun a => fv (ap (cauchy p) (fun j => el p (X j)) a) := ⟨_, rfl⟩
          rw [← hR] at HT hdn
          have hDN := Lib.hid hdn
          have H0 := Lib.hid h0
          have H1 := Lib.hid h1
          have HB := Lib.hid hb
          clear hdn hR hX hI hFr hGr h0 h1 hb
          go_wp2
          refine wp_region_quiet_tail 5 hmx (by kernel_rfl) ?_
          simp only [List.take_succ_cons, List.take_zero, List.drop_succ_cons, List.drop_zero]
          repeat (quiet_step (fail))
          refine wpQuiet_nil ?_
          intro _ hw'
          obtain ⟨nq1, hw''⟩ := hw'
          subst hw''
          clear x0 x1 x2 x3 x4 x5 x6 x7
          go_wp2_with (first | (go_at_call 33; refine (HT.out nq1).mono ?_; rintro _ w3 ⟨rfl, hb3⟩; have h3 := Blk.below (H0.out.drewN nq1) hb3 H0.out.lt; have HB4 := Lib.hid hb3; clear hb3) | (refine wpList_store_row rfl 59 _ _ rfl w.heap.size _ rfl rfl _ _ h3 (info8 _) (by rw [st_size, st_size]) (st_one _) ?_))
          have hBR : Blk (w3.setRow w.heap.size (st R)) w.heap.size 59 (st R) := setRow_heap _ _ _ _ _ _ h3
          have hBP : Blk (w3.setRow w.heap.size (st R)) w.heap.size 59 (st (permI (p := p) k x (r + 1))) := by rw [← hDN.out]; exact hBR
          have hB1 : Blk (w3.setRow w.heap.size (st R)) (w.heap.size + 1) 59 (st fun _ => 0) := (setRow_other w3 w.heap.size (w.heap.size + 1) (st R) (by omega)).trans (Blk.below (H1.out.drewN nq1) HB4.out H1.out.lt)
          have hBB := below_setRow8 ((below_drewN HB.out nq1).trans (HB4.out.mono (below_drewN HB.out nq1).size)) (Nat.le_refl _) (st R)
          go_roundw
          case rel => exact ⟨r + 1, by omega, by go_num, hBP, hB1, hBB⟩
          case measure => simp [intOf]; omega
    · have er : r = 8 := by omega
      have hres : st (permI (p := p) k x r) = st fun i => fv (permT (p := p) k (fun j => el p (x j)) 8 i) := st_congr fun j hj => by subst er; rfl
      rw [hres] at h0
      obtain ⟨R, hR⟩ : ∃ R : Nat → Int, R = fun i => fv (permT (p := p) k (fun j => el p (x j)) 8 i) := ⟨_, rfl⟩
      rw [← hR] at h0
      have HR := Lib.hid hR
      have t1 : ¬ (r : Int) < 8 := by omega
      clear hR er hres
      go_wp2_with (first | (refine wpList_load_row rfl 59 _ rfl w.heap.size rfl _ _ _ _ h0 Try.underlying59 rfl (info8 _) ?_) | (refine wpList_store_row rfl 59 _ _ rfl (w.heap.size + 1) _ rfl rfl _ _ h1 (info8 _) (by rw [st_size, st_size]) (st_one _) ?_))
      have hB1 : Blk (wr.setRow (w.heap.size + 1) (st R)) (w.heap.size + 1) 59 (st R) := setRow_heap _ _ _ _ _ _ h1
      refine bodyPost_ret (v := .agg (st R)) (results_cell_row (P := Try.prog) (by rfl) _ _ (w.heap.size + 1) _ _ _ _ (by rfl) hB1 Try.underlying59 rfl (info8 _)) rfl ⟨by rw [HR.out], below_setRow8 hb (by omega) _⟩
end Go.Proofs.Ytabhndfdioimcaa
