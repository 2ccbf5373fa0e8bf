/- The walks of Sponge.Permute and Sponge.Unpermute. -/
import Derived.Test.YtlcmacdeadmloaaDoorPe
set_option linter.unusedVariables false
namespace Go.Proofs.YtlcmacdeadmloaaDoor
open Go.RowKit Zp

section
variable {p : Nat} [NeZero p]
/-- a state of which n rounds were undone -/
def unpT (z : Nat) (oo : Nat → Nat → Fin p) (v : Nat → Fin p) : Nat → Nat → Fin p
  | 0 => v
  | n + 1 => fun i => pw (ap oo (unpT z oo v n) i) z - cstT p (7 - n) i
/-- .. as ints -/
def unpI (z : Nat) (oo : Nat → Nat → Fin p) (x : Nat → Int) (n j : Nat) : Int := if n = 0 then x j else fv (unpT z oo (fun j => el p (x j)) n j)
theorem unpI_zero (z : Nat) (oo : Nat → Nat → Fin p) (x : Nat → Int) : unpI z oo x 0 = x := by funext j; simp [unpI]
theorem unpI_el (z : Nat) (oo : Nat → Nat → Fin p) (x : Nat → Int) (n j : Nat) : el p (unpI z oo x n j) = unpT z oo (fun j => el p (x j)) n j := by
  unfold unpI
  by_cases h : n = 0
  · subst h; rw [if_pos rfl]; rfl
  · rw [if_neg h, el_fv]
theorem unpI_i64 (hp2 : p ≤ 2147483647) (z : Nat) (oo : Nat → Nat → Fin p) {x : Nat → Int} (hx : ∀ i, I64 (x i)) (n j : Nat) : I64 (unpI z oo x n j) := by
  unfold unpI
  split
  · exact hx j
  · exact i64_fv _ hp2
/-- .. and i places more -/
def unmI (z : Nat) (oo : Nat → Nat → Fin p) (x : Nat → Int) (n i j : Nat) : Int := if j < i then fv (unpT z oo (fun j => el p (x j)) (n + 1) j) else fv (ap oo (unpT z oo (fun j => el p (x j)) n) j)
theorem unmI_at (z : Nat) (oo : Nat → Nat → Fin p) (x : Nat → Int) (n i : Nat) : unmI z oo x n i i = fv (ap oo (unpT z oo (fun j => el p (x j)) n) i) := by simp [unmI]
theorem unmI_step (z : Nat) (oo : Nat → Nat → Fin p) (x : Nat → Int) (n i : Nat) : st (upd (unmI z oo x n i) i (fv (pw (ap oo (unpT z oo (fun j => el p (x j)) n) i) z - cstT p (7 - n) i))) = st (unmI z oo x n (i + 1)) := st_congr fun j _ => by
  unfold upd unmI
  by_cases h : j = i
  · subst h; rw [if_pos rfl, if_pos (by omega)]; rfl
  · rw [if_neg h]
    by_cases h1 : j < i
    · rw [if_pos h1, if_pos (by omega)]
    · rw [if_neg h1, if_neg (by omega)]
theorem unmI_start (z : Nat) (oo : Nat → Nat → Fin p) (x : Nat → Int) (n : Nat) : st (fun a => fv (ap oo (fun j => el p (unpI z oo x n j)) a)) = st (unmI z oo x n 0) := st_congr fun a _ => by
  show fv (ap oo _ a) = unmI z oo x n 0 a
  unfold unmI
  rw [if_neg (by omega)]
  congr 1
  exact ap_congr (fun _ _ => rfl) fun j _ => unpI_el z oo x n j
theorem unmI_done (z : Nat) (oo : Nat → Nat → Fin p) (x : Nat → Int) (n : Nat) : st (unmI z oo x n 8) = st (unpI z oo x (n + 1)) := st_congr fun a ha => by
  unfold unmI unpI
  rw [if_pos ha, if_neg (by omega)]
end
set_option maxRecDepth 100000 in
set_option maxHeartbeats 2000000 in
theorem permute_not (A : Option Addr) (m c s : Nat) (hm : m ≠ 8) (w : World) (h63 : m ≤ 9223372036854775807) :
    Calls Tryd.prog 21 #[.pointer (some ⟨s, 0, none⟩), .slice A m c] w fun e w' => e = .returned (.slice none 0 0) ∧ w = w' := by
  have HM := Lib.hid hm
  clear hm
  go_enter Tryd.func21, Tryd.ntmps21
  go_wp2_with (go_at_call 47; refine (list_not A m c _ HM.out _ h63).mono ?_; rintro _ _ ⟨rfl, rfl⟩)
  go_ret
  exact ⟨rfl, rfl⟩
set_option maxRecDepth 100000 in
set_option maxHeartbeats 2000000 in
theorem permute_any (p S b s k z : Nat) [NeZero p] (oo : Nat → Nat → Fin p) (ad : Addr) (c : Nat) (x : Nat → Int) (hx : ∀ i, I64 (x i)) (w : World) (F : Fld w S b p) (G : Spg w s b k z oo) (hs : ∀ i, i < 8 → w.cell? (ad.add i) = some (vi (x i))) :
    Calls Tryd.prog 21 #[.pointer (some ⟨s, 0, none⟩), .slice (some ad) 8 c] w fun e w' => Made ((List.range 8).map fun i => fv (permT (p := p) k (fun j => el p (x j)) 8 i)) w e w' := by
  have hK := callFunc_enters Tryd.func48 (by kernel_rfl) (by kernel_rfl)
  have hm1 := permuted_any p S b s k z oo x hx w F G
  have hl1 := list_any ad c x _ 48 hK #[.pointer (some ⟨s, 0, none⟩)] #[] w hs hm1
  have HL := Lib.hid hl1
  clear hm1 hl1 hK
  go_enter Tryd.func21, Tryd.ntmps21
  go_wp2_with (go_at_call 47; refine (HL.out).mono ?_; rintro _ w4 ⟨v, rfl, ho, hb4⟩)
  go_ret
  exact ⟨v, rfl, ho, hb4⟩
def UnpRel {p : Nat} [NeZero p] (z : Nat) (oo : Nat → Nat → Fin p) (x : Nat → Int) (w : World) (t : Value) (wr : World) : Prop :=
  ∃ n : Nat, n ≤ 8 ∧ t = vi (7 - (n : Int)) ∧ Blk wr w.heap.size 63 (st (unpI z oo x n)) ∧ Blk wr (w.heap.size + 1) 63 (st fun _ => 0) ∧ Below w.heap.size w wr
def UnpIn {p : Nat} [NeZero p] (z : Nat) (oo : Nat → Nat → Fin p) (x : Nat → Int) (w : World) (n : Nat) (t : Value) (wr : World) : Prop :=
  ∃ i : Nat, i ≤ 8 ∧ t = vi i ∧ Blk wr w.heap.size 63 (st (unmI z oo x n i)) ∧ Blk wr (w.heap.size + 1) 63 (st fun _ => 0) ∧ Below w.heap.size w wr
set_option maxRecDepth 100000 in
set_option maxHeartbeats 4000000 in
theorem unperm1_any (p S b s k z g : Nat) [NeZero p] (oo : Nat → Nat → Fin p) (x : Nat → Int) (hx : ∀ i, I64 (x i)) (w : World) (F : Fld w S b p) (G : Spg w s b k z oo) (hg : w.cell? ⟨g, 0, none⟩ = some (.pointer (some ⟨s, 0, none⟩))) :
    Calls Tryd.prog 51 #[.agg (st x), .pointer (some ⟨g, 0, none⟩)] w fun e w' => e = .returned (.agg (st fun i => fv (unpT z oo (fun j => el p (x j)) 8 i))) ∧ Below w.heap.size w w' := by
  have hp1 := F.two
  have hp2 := F.max
  have hsl := block_lt_of_cell G.c0
  have hgl := block_lt_of_cell hg
  have hb1 : Below w.heap.size w (w.alloc (.cells (st x) 63)) := (Below.refl _ _).alloc (Nat.le_refl _) _
  have hb2 := hb1.alloc hb1.size (.cells (st fun _ => 0) 63)
  have hB0 := (Blk.new w 63 (st x)).alloc (.cells (st fun _ => 0) 63)
  have hB1 := Blk.new (w.alloc (.cells (st x) 63)) 63 (st fun _ => 0)
  rw [World.size_alloc] at hB1
  have hzz : (z : Int) ≤ 2147483647 := by have := G.zp; omega
  have hmx : Tryd.prog.follows .mixedOrders = true := by kernel_rfl
  go_enter Tryd.func51, Tryd.ntmps51
  go_wp2
  go_loopw [4] (fun t wr => UnpRel z oo x w t wr) (fun t _ => (intOf t + 1).toNat)
  case atStart => exact ⟨0, by omega, rfl, by rw [unpI_zero]; exact hB0, hB1, hb2⟩
  case round =>
    obtain ⟨n, hn, rfl, h0, h1, hb⟩ := hrel
    clear hB0 hB1 hb1 hb2
    by_cases hn8 : n < 8
    · have hgr := (hb.cell (p := ⟨g, 0, none⟩) hgl).trans hg
      have hFr := F.below hb F.le
      have hGr := G.below hb hsl
      have hI := unpI_i64 hp2 z oo hx n
      have hdn := unmI_start z oo x n
      obtain ⟨X, hX⟩ : ∃ X, X = unpI z oo x n := ⟨_, rfl⟩
      rw [← hX] at h0 hI
      have hdn : st (fun a => fv (ap oo (fun j => el p (X j)) a)) = st (unmI z oo x n 0) := by rw [hX]; exact hdn
      have x0 := h0.at8 (show 0 < 8 by omega)
      have x1 := h0.at8 (show 1 < 8 by omega)
      have x2 := h0.at8 (show 2 < 8 by omega)
      have x3 := h0.at8 (show 3 < 8 by omega)
      have x4 := h0.at8 (show 4 < 8 by omega)
      have x5 := h0.at8 (show 5 < 8 by omega)
      have x6 := h0.at8 (show 6 < 8 by omega)
      have x7 := h0.at8 (show 7 < 8 by omega)
      have HT := Lib.hid (fun n => times_any p S b s s 67 oo X hI (wr.drewN n) (hFr.below (below_drewN (Below.refl _ _) n) hFr.le) hGr.c0 hGr.oth)
      obtain ⟨R, hR⟩ : ∃ R : Nat → Int, R = fun a => fv (ap oo (fun j => el p (X j)) a) := ⟨_, rfl⟩
      rw [← hR] at HT hdn
      have hDN := Lib.hid hdn
      have H0 := Lib.hid h0
      have H1 := Lib.hid h1
      have HB := Lib.hid hb
      obtain ⟨r, hr⟩ : ∃ r : Int, r = 7 - (n : Int) := ⟨_, rfl⟩
      rw [← hr]
      have HR := Lib.hid hr
      have r1 : (0 : Int) ≤ r := by omega
      have r2 : r < 8 := by omega
      clear hdn hR hX hI hFr hGr h0 h1 hb hr
      go_wp2
      refine wp_region_quiet_tail 5 hmx (by kernel_rfl) ?_
      simp only [List.take_succ_cons, List.take_zero, List.drop_succ_cons, List.drop_zero]
      repeat (quiet_step (fail))
      refine wpQuiet_nil ?_
      intro _ hw'
      obtain ⟨nq1, hw''⟩ := hw'
      subst hw''
      clear x0 x1 x2 x3 x4 x5 x6 x7
      go_wp2_with (first | (go_at_call 50; refine (HT.out nq1).mono ?_; rintro _ w3 ⟨rfl, hb3⟩; have h3 := Blk.below (H0.out.drewN nq1) hb3 H0.out.lt; have HB4 := Lib.hid hb3; clear hb3) | (refine wpList_store_row rfl 63 _ _ rfl w.heap.size _ rfl rfl _ _ h3 (info8 _) (by rw [st_size, st_size]) (st_one _) ?_))
      have hBR : Blk (w3.setRow w.heap.size (st R)) w.heap.size 63 (st R) := setRow_heap _ _ _ _ _ _ h3
      have hBP : Blk (w3.setRow w.heap.size (st R)) w.heap.size 63 (st (unmI z oo x n 0)) := by rw [← hDN.out]; exact hBR
      have hB1 : Blk (w3.setRow w.heap.size (st R)) (w.heap.size + 1) 63 (st fun _ => 0) := (setRow_other w3 w.heap.size (w.heap.size + 1) (st R) (by omega)).trans (Blk.below (H1.out.drewN nq1) HB4.out H1.out.lt)
      have hBB := below_setRow8 ((below_drewN HB.out nq1).trans (HB4.out.mono (below_drewN HB.out nq1).size)) (Nat.le_refl _) (st R)
      generalize w3.setRow w.heap.size (st R) = w5 at hBP hB1 hBB
      clear hBR HB4 h3 hgr
      go_loopw [16, 5] (fun t _ wr => UnpIn z oo x w n t wr) (fun t _ _ => 8 - (intOf t).toNat)
      case atStart => exact ⟨0, by omega, rfl, hBP, hB1, hBB⟩
      case round =>
        clear hBP hB1 hBB
        obtain ⟨i, hi, rfl, h0, h1, hb⟩ := hrel
        have hgr := (hb.cell (p := ⟨g, 0, none⟩) hgl).trans hg
        by_cases hi8 : i < 8
        · have i1 : (0 : Int) ≤ (i : Int) := by omega
          have i2 : (i : Int) < 8 := by omega
          have hcr := (F.below hb F.le).c0
          have hGr := G.below hb hsl
          have hs0 := hGr.c0
          have hs2 := hGr.c2
          have cX := h0.at8 hi8
          have fX := h0.frozen i
          rw [unmI_at] at cX
          have hst := unmI_step z oo x n i
          obtain ⟨V, hV⟩ : ∃ V, V = ap oo (unpT z oo (fun j => el p (x j)) n) i := ⟨_, rfl⟩
          rw [← hV] at hst cX
          obtain ⟨C, hC⟩ : ∃ C, C = cstT p (7 - n) i := ⟨_, rfl⟩
          have hcst := fun W ha hb => const_any p b s hp1 hp2 r i ⟨by omega, by omega⟩ ⟨by omega, by omega⟩ W ha hb
          have er : r = ((7 - n : Nat) : Int) := by have := HR.out; omega
          have ec : cstI p r i = fv C := by rw [er, cstI_in p (by omega) hi8, hC]
          rw [ec] at hcst
          have hpow := fun W hc => pow_any p hp1 hp2 b (fv V) z (i64_fv _ hp2) ⟨by omega, by omega⟩ W hc
          rw [el_fv, zpw_nat] at hpow
          obtain ⟨T, hT⟩ : ∃ T, T = pw V z := ⟨_, rfl⟩
          rw [← hT] at hpow
          have hsub := fun W hc => sub_any p hp2 b (fv T) (fv C) (i64_fv _ hp2) (i64_fv _ hp2) W hc
          rw [el_fv, el_fv] at hsub
          obtain ⟨U, hU⟩ : ∃ U, U = T - C := ⟨_, rfl⟩
          rw [← hC, ← hT, ← hU] at hst
          rw [← hU] at hsub
          have hset := fun (W : World) (u : Fin p) (h : Blk W w.heap.size 63 (st (unmI z oo x n i))) => h.set8 hi8 (fv u)
          have HC := Lib.hid hcst
          have HA := Lib.hid hsub
          have HP := Lib.hid hpow
          have HST := Lib.hid hst
          have HSET := Lib.hid hset
          clear hcst hsub hpow hst hset hV hC hU hT hGr er ec
          go_wp2
          refine wp_region_quiet_tail 23 hmx (by kernel_rfl) ?_
          simp only [List.take_succ_cons, List.take_zero, List.drop_succ_cons, List.drop_zero]
          repeat (quiet_step (first | (go_at_call 43; exact Calls.quiet_of (HP.out _ (by exact hcr))) | (go_at_call 52; exact quiet_eq (HA.out _ (by exact hcr))) | (go_at_call 15; exact Calls.quiet_of (HC.out _ (by exact hs0) (by exact hcr)))))
          refine wpQuiet_nil ?_
          intro _ hw'
          obtain ⟨nq1, hw''⟩ := hw'
          subst hw''
          have q0 := HSET.out _ U (h0.drewN nq1)
          have q1 := (h1.drewN nq1).far (p := ⟨w.heap.size, i, none⟩) (by show w.heap.size + 1 ≠ w.heap.size; omega) (vi (fv U))
          have qb := (below_drewN hb nq1).setCell (p := ⟨w.heap.size, i, none⟩) (Nat.le_refl _) (vi (fv U))
          rw [HST.out] at q0
          go_wp2
          go_roundw
          case rel => exact ⟨i + 1, by omega, by go_num, q0, q1, qb⟩
          case measure => simp [intOf]; omega
        · have ei : i = 8 := by omega
          rw [ei, unmI_done] at h0
          have t1 : ¬ (i : Int) < 8 := by omega
          clear ei
          go_wp2
          have h' := HR.out
          go_roundw
          case rel => exact ⟨n + 1, by omega, by rw [h']; go_num, h0, h1, hb⟩
          case measure => simp [intOf]; omega
    · have en : n = 8 := by omega
      have hres : st (unpI z oo x n) = st fun i => fv (unpT z oo (fun j => el p (x j)) 8 i) := st_congr fun j hj => by subst en; rfl
      rw [hres] at h0
      obtain ⟨R, hR⟩ : ∃ R : Nat → Int, R = fun i => fv (unpT z oo (fun j => el p (x j)) 8 i) := ⟨_, rfl⟩
      rw [← hR] at h0
      have HR := Lib.hid hR
      have t1 : (7 : Int) - (n : Int) < 0 := by omega
      clear hR hres
      subst en
      go_wp2_with (first | (refine wpList_load_row rfl 63 _ rfl w.heap.size rfl _ _ _ _ h0 Tryd.underlying63 rfl (info8 _) ?_) | (refine wpList_store_row rfl 63 _ _ rfl (w.heap.size + 1) _ rfl rfl _ _ h1 (info8 _) (by rw [st_size, st_size]) (st_one _) ?_))
      have hB1 : Blk (wr.setRow (w.heap.size + 1) (st R)) (w.heap.size + 1) 63 (st R) := setRow_heap _ _ _ _ _ _ h1
      refine bodyPost_ret (v := .agg (st R)) (results_cell_row (P := Tryd.prog) (by rfl) _ _ (w.heap.size + 1) _ _ _ _ (by rfl) hB1 Tryd.underlying63 rfl (info8 _)) rfl ⟨by rw [HR.out], below_setRow8 hb (by omega) _⟩
set_option maxRecDepth 100000 in
set_option maxHeartbeats 2000000 in
theorem unpermute_not (A : Option Addr) (m c s : Nat) (hm : m ≠ 8) (w : World) (h63 : m ≤ 9223372036854775807) :
    Calls Tryd.prog 23 #[.pointer (some ⟨s, 0, none⟩), .slice A m c] w fun e w' => e = .returned (.slice none 0 0) ∧ Below w.heap.size w w' := by
  have HM := Lib.hid hm
  clear hm
  have hb1 : Below w.heap.size w (w.alloc (.cells #[.pointer (some ⟨s, 0, none⟩)] 23)) := (Below.refl _ _).alloc (Nat.le_refl _) _
  go_enter Tryd.func23, Tryd.ntmps23
  go_wp2_with (go_at_call 47; refine (list_not A m c _ HM.out _ h63).mono ?_; rintro _ _ ⟨rfl, rfl⟩)
  go_ret
  exact ⟨rfl, hb1⟩
set_option maxRecDepth 100000 in
set_option maxHeartbeats 2000000 in
theorem unpermute_any (p S b s k z : Nat) [NeZero p] (oo : Nat → Nat → Fin p) (ad : Addr) (c : Nat) (x : Nat → Int) (hx : ∀ i, I64 (x i)) (w : World) (F : Fld w S b p) (G : Spg w s b k z oo) (hl : ad.block < w.heap.size) (hs : ∀ i, i < 8 → w.cell? (ad.add i) = some (vi (x i))) :
    Calls Tryd.prog 23 #[.pointer (some ⟨s, 0, none⟩), .slice (some ad) 8 c] w fun e w' => Made ((List.range 8).map fun i => fv (unpT z oo (fun j => el p (x j)) 8 i)) w e w' := by
  have hsl := block_lt_of_cell G.c0
  have hK := callFunc_enters Tryd.func51 (by kernel_rfl) (by kernel_rfl)
  have hb1 : Below w.heap.size w (w.alloc (.cells #[.pointer (some ⟨s, 0, none⟩)] 23)) := (Below.refl _ _).alloc (Nat.le_refl _) _
  have hg : (w.alloc (.cells #[.pointer (some ⟨s, 0, none⟩)] 23)).cell? ⟨w.heap.size, 0, none⟩ = some (.pointer (some ⟨s, 0, none⟩)) := by rw [(Blk.new w _ _).cell]; rfl
  have hm1 := unperm1_any p S b s k z w.heap.size oo x hx _ (F.below hb1 F.le) (G.below hb1 hsl) hg
  have hl1 := list_any ad c x _ 51 hK #[] #[.pointer (some ⟨w.heap.size, 0, none⟩)] _ (fun i hi => (hb1.cell (p := ad.add i) (by unfold Addr.add; split <;> exact hl)).trans (hs i hi)) hm1
  have HL := Lib.hid hl1
  have HB := Lib.hid hb1
  clear hm1 hl1 hK hg hb1
  go_enter Tryd.func23, Tryd.ntmps23
  go_wp2_with (go_at_call 47; refine (HL.out).mono ?_; rintro _ w4 ⟨v, rfl, ho, hb4⟩)
  go_ret
  exact ⟨v, rfl, ho.more HB.out.size, HB.out.trans (hb4.mono HB.out.size)⟩
end Go.Proofs.YtlcmacdeadmloaaDoor
