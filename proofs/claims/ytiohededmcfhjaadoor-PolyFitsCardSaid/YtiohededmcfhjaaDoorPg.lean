/- The walk of poly.Fit: unlike points. -/
import Derived.Test.YtiohededmcfhjaaDoorPf
import Derived.Test.YtiohededmcfhjaaDoorEval
import Derived.Deep.RegionHeld3
set_option linter.unusedVariables false
namespace Go.Proofs.YtiohededmcfhjaaDoor
open Go.RowKit Zp

/-- a list that meets the points is handed back, and no error -/
def MadeFitP {p : Nat} [NeZero p] (xs ys : List (Fin p)) (w : World) (e : Ending) (w' : World) : Prop :=
  ∃ (o : List (Fin p)) (v : Value), Fitted xs ys xs.length o ∧ e = .returned (.tuple #[v, .nilIface]) ∧ Own w' w.heap.size v (fvs o) ∧ Below w.heap.size w w'
theorem drop_end {p : Nat} [NeZero p] (V : List (Fin p)) (x : Fin p) (i : Nat) (h : V.length ≤ i) : ev (V.drop i) x = 0 := by rw [List.drop_eq_nil_of_le h]; rfl
theorem eval_nP (p : Nat) [NeZero p] (S b : Nat) (A : Option Addr) (n cap : Nat) (xs : List Int) (hml : xs.length = n) (hxs : ∀ n ∈ xs, I64 n) (hreach : n * 8 ≤ 140737488351232) (x : Int) (hx : I64 x) (w : World) (F : Fld w S b p) (hs : SL w A xs) :
    Calls Tryd.prog 35 #[.pointer (some ⟨b, 0, none⟩), .slice A n cap, vi x] w fun e w' => SaysW (vi (fv (ev (els p xs) (el p x)))) w e w' := by
  subst hml
  exact eval_any p S b A cap xs hxs hreach x hx w F hs

def PartRel {p : Nat} [NeZero p] (V : List (Fin p)) (X : Fin p) (na base gp : Nat) (W0 : World) (r t : Value) (wr : World) : Prop :=
  ∃ (j : Nat) (P : List (Fin p)), j ≤ na ∧ t = vi j ∧ r = vi (fv (ev (V.drop (j + 1)) X)) ∧ OwnC wr base gp na na P ∧ (∀ i, j ≤ i → co P i = ev (V.drop (i + 1)) X) ∧ Below W0.heap.size W0 wr
def SumRel {p : Nat} [NeZero p] (P S : List (Fin p)) (c : Fin p) (na base gs gp : Nat) (w2 : World) (t : Value) (wr : World) : Prop :=
  ∃ (j : Nat) (M : List (Fin p)), j ≤ na ∧ t = vi j ∧ OwnC wr base gs na na M ∧ OwnC wr base gp na na P ∧ FitIn P c j S M ∧ Below w2.heap.size w2 wr
set_option maxRecDepth 100000 in
set_option maxHeartbeats 8000000 in
theorem pfit_any (p S b : Nat) [NeZero p] (A B : Option Addr) (na ca cb : Nat) (xs ys : List Int) (hna : xs.length = na) (hnb : ys.length = na) (hxs : ∀ n ∈ xs, I64 n) (hys : ∀ n ∈ ys, I64 n) (hr : na * 8 ≤ 140737488351232) (hnd : (els p xs).Nodup) (w : World) (F : Fld w S b p) (hsx : SL w A xs) (hsy : SL w B ys) :
    Calls Tryd.prog 12 #[.pointer (some ⟨b, 0, none⟩), .slice A na ca, .slice B na cb] w fun e w' => MadeFitP (els p xs) (els p ys) w e w' := by
  have hp := F.prime
  have hp1 := F.two
  have hp2 := F.max
  have hc := F.c0
  have hbl : b < w.heap.size := block_lt_of_cell hc
  obtain ⟨l, hl⟩ : ∃ l, l = els p xs := ⟨_, rfl⟩
  obtain ⟨m, hm⟩ : ∃ m, m = els p ys := ⟨_, rfl⟩
  have hvan := fun W hcW hsW => pvan_any p hp hp1 hp2 b A na ca xs hna hxs hr W hcW hsW
  rw [← hl] at hnd hvan ⊢
  rw [← hm]
  have hll : l.length = na := by rw [hl]; simp [hna]
  have hlm : m.length = na := by rw [hm]; simp [hnb]
  have hco : ∀ k (hk : k < xs.length) (hk' : k < l.length), l[k] = el p xs[k] := fun k hk hk' => by simp [hl]
  have hcm : ∀ k (hk : k < ys.length), co m k = el p ys[k] := fun k hk => by rw [hm, co_of_lt (by simpa using hk)]; simp
  have HLL := Lib.hid hll
  have HLM := Lib.hid hlm
  have HCO := Lib.hid hco
  have HCM := Lib.hid hcm
  have HNA := Lib.hid hna
  have HNB := Lib.hid hnb
  have HND := Lib.hid hnd
  have HP := Lib.hid hp
  have HVAN := Lib.hid hvan
  have hs0 := SeenAt.made (p := p) w
  have hmm := @run_makeMap Tryd.prog
  have t0 : ((na : Int) != (na : Int)) = false := by simp
  clear hl hm hll hlm hna hnb hco hcm hnd hp hvan
  go_enter Tryd.func12, Tryd.ntmps12
  go_wp2
  go_loopw [30] (fun i wr => SeenRel l na w.heap.size w i wr) (fun i _ => na - (intOf i).toNat)
  case atStart => exact ⟨0, Nat.zero_le _, rfl, hs0, by simp, (Below.refl _ _).alloc (Nat.le_refl _) _⟩
  case round =>
    obtain ⟨k, hk, rfl, hsn, hnd, hb⟩ := hrel
    have hcr : wr.cell? ⟨b, 0, none⟩ = some (vi p) := (hb.cell (p := ⟨b, 0, none⟩) hbl).trans hc
    by_cases hkn : k < na
    · have hkl : k < l.length := by rw [HLL.out]; exact hkn
      have hkx : k < xs.length := by rw [HNA.out]; exact hkn
      obtain ⟨ad, rfl, hab, hcell⟩ := (hsx.below hb).at_ hkx
      have hI := hxs _ (List.getElem_mem hkx)
      have hst : l.take (k + 1) = l.take k ++ [el p xs[k]] := by rw [List.take_succ_eq_append_getElem hkl, HCO.out k hkx hkl]
      have hof := fun W hcW => of_el p hp2 b xs[k] hI W hcW
      generalize xs[k] = x at hcell hI hst hof
      generalize el p x = z at hst hof
      have hz : ¬ z ∈ l.take k := fun h => by
        have h1 : (l.take (k + 1)).Nodup := HND.out.sublist (List.take_sublist _ _)
        rw [hst, List.nodup_append] at h1
        exact h1.2.2 z h z (by simp) rfl
      have hlk := hsn.look hp2 z
      rw [decide_eq_false hz] at hlk
      obtain ⟨D, hD1, hD2⟩ := hsn
      have HPUT := Lib.hid (SeenAt.put hD1 hD2 z)
      have hnd2 := nodup_snoc hnd hz
      rw [← hst] at hnd2
      have HOF := Lib.hid hof
      have HST := Lib.hid hst
      have HND2 := Lib.hid hnd2
      have i1 : (0 : Int) ≤ (k : Int) := by omega
      have i2 : (k : Int) < na := by omega
      clear hof hst hnd hz hD2 hnd2
      go_wp2_with fail
      refine (HOF.out _ hcr).mono ?_
      rintro e w' ⟨rfl, rfl⟩
      go_wp2_with fail
      refine (HOF.out _ hcr).mono ?_
      rintro e w' ⟨rfl, rfl⟩
      go_wp2_with (at_mapUpdate; refine wpList_mapUpdate_own _ rfl _ _ _ 54 rfl 3 4 keyed_int Tryd.underlying54 _ w.heap.size k _ rfl hD1 (by simp only [maxLen]; omega) _ _ _ rfl rfl (Go.Maps.keyOf_int_mk Tryd.underlying3 (wf_fv z hp2)) _ [] (plainElem_bool Tryd.underlying4 true) ?_; intro w1 hD3 hg1)
      have hs2 : SeenAt w1 w.heap.size (k + 1) (l.take (k + 1)) := by rw [HST.out]; exact ⟨_, hD3, HPUT.out⟩
      have hb2 : Below w.heap.size w w1 := hb.grown hg1 hb.size (fun j hj => by injection hj with hj; omega)
      go_roundw
      case rel => exact ⟨k + 1, by omega, by go_num, hs2, HND2.out, hb2⟩
      case measure => simp [intOf]; omega
    · have ek : na = k := by omega
      subst ek
      clear hsn hnd hkn hk hs0
      have hsx1 := hsx.below hb
      have hsy1 := hsy.below hb
      have F1 := F.below hb F.le
      have hV := monic_van HP.out l
      have hpart := fun P i hi => PartOk.van (P := P) (i := i) HP.out (l := l) hi
      have hvl := HVAN.out _ hcr hsx1
      have hstep := fun (k : Nat) (S M P : List (Fin p)) (c : Fin p) (h : FitSum l m k S) (hk : k < l.length) (hP : PartOk (vanL l) (co l k) P) (hPl : P.length = l.length) (hc : c = co m k * Zp.inv (ev P (co l k))) (hm : FitIn P c P.length S M) => FitSum.step HP.out HND.out h hk hP hPl hc hm
      generalize vanL l = V at hV hvl hstep
      rw [HLL.out] at hV
      have HV := Lib.hid hV
      have HVL := Lib.hid hvl
      have HSTEP := Lib.hid hstep
      have hmk := make_ints na na (Nat.le_refl _) (by omega)
      clear hV hpart hvl hstep
      go_wp2_with fail
      refine (HVL.out).mono ?_
      rintro e w2 ⟨v2, rfl, hownV, hb2⟩
      have hlV : (fvs V).length = na + 1 := by rw [List.length_map]; exact HV.out.len
      obtain ⟨gV, cV, rfl, hgV, hgV'⟩ := hownV.block (by omega)
      obtain ⟨nv, hnv⟩ : ∃ nv, nv = na + 1 := ⟨_, rfl⟩
      rw [← hnv] at hlV
      rw [hlV] at hownV ⊢
      have hownVC : OwnC w2 wr.heap.size gV nv cV V := ⟨by rw [HV.out.len, hnv], hownV⟩
      have hbw2 := hb.trans (hb2.mono hb.size)
      have hsx2 := hsx1.below hb2
      have hsy2 := hsy1.below hb2
      have F2 := F1.below hb2 F1.le
      have hOE := OwnC.made (p := p) w2 w.heap.size na hbw2.size (by omega)
      have hba : Below w2.heap.size w2 (w2.alloc (.cells (zeros na) 3)) := (Below.refl _ _).alloc (Nat.le_refl _) _
      have HFS := Lib.hid (FitSum.start l m na HLL.out.symm)
      have HNV := Lib.hid hnv
      have HLV := Lib.hid hlV
      clear hownV hnv hlV F1 hsx1 hsy1 hcr hb2
      go_wp2
      go_loopw [53] (fun i wr => ∃ (k : Nat) (S' : List (Fin p)), k ≤ na ∧ i = vi k ∧ OwnC wr w.heap.size w2.heap.size na na S' ∧ FitSum l m k S' ∧ Below w2.heap.size w2 wr) (fun i _ => na - (intOf i).toNat)
      case atStart => exact ⟨0, _, Nat.zero_le _, rfl, hOE, HFS.out, hba⟩
      case round =>
        obtain ⟨k, S', hk, rfl, hoS, hfs, hbr⟩ := hrel
        obtain ⟨W0, hW0⟩ : ∃ W0 : World, W0 = wr := ⟨_, rfl⟩
        subst hW0
        have F0 := F2.below hbr F2.le
        have hc0 := F0.c0
        have hbl0 : b < W0.heap.size := block_lt_of_cell hc0
        have HFSK := Lib.hid hfs
        clear hfs
        by_cases hkn : k < na
        · have hkl : k < l.length := by rw [HLL.out]; exact hkn
          have hkx : k < xs.length := by rw [HNA.out]; exact hkn
          have hky : k < ys.length := by rw [HNB.out]; exact hkn
          obtain ⟨ad, rfl, hab, hcx⟩ := (hsx2.below hbr).at_ hkx
          obtain ⟨ad2, rfl, hab2, hcy⟩ := (hsy2.below hbr).at_ hky
          have hIx := hxs _ (List.getElem_mem hkx)
          have hIy := hys _ (List.getElem_mem hky)
          have hlx : co l k = el p xs[k] := by rw [co_of_lt hkl, HCO.out k hkx hkl]
          have hmy := HCM.out k hky
          generalize xs[k] = x at hcx hIx hlx
          generalize ys[k] = y at hcy hIy hmy
          obtain ⟨X, hX⟩ : ∃ X, X = el p x := ⟨_, rfl⟩
          have HXE := Lib.hid hX
          have HLX := Lib.hid (hlx.trans hX.symm)
          have HMY := Lib.hid hmy
          have hoV := hownVC.below hbr
          have hOP := OwnC.made (p := p) W0 w.heap.size na (Nat.le_trans hbw2.size hbr.size) (by omega)
          have hba0 : Below W0.heap.size W0 (W0.alloc (.cells (zeros na) 3)) := (Below.refl _ _).alloc (Nat.le_refl _) _
          have HP0 : Hid (∀ i, na ≤ i → co (List.replicate na (0 : Fin p)) i = ev (V.drop (i + 1)) X) := Lib.hid fun i hi => by rw [co_replicate, drop_end V X _ (by rw [HV.out.len]; omega)]
          have HR0 : Hid (vi 0 = vi (fv (ev (V.drop (na + 1)) X))) := Lib.hid (by rw [drop_end V X _ (by rw [HV.out.len]; omega), fv_zero])
          clear hlx hmy hX
          go_wp2
          go_loopw [16, 17] (fun r t wr => PartRel V X na w.heap.size W0.heap.size W0 r t wr) (fun _ t _ => (intOf t).toNat)
          case atStart => exact ⟨na, _, Nat.le_refl _, rfl, HR0.out, hOP, HP0.out, hba0⟩
          case round =>
            obtain ⟨j, P, hj, rfl, rfl, hoP, hPj, hb3⟩ := hrel
            have hcr : wr.cell? ⟨b, 0, none⟩ = some (vi p) := (hb3.cell (p := ⟨b, 0, none⟩) hbl0).trans hc0
            have HPJ := Lib.hid hPj
            clear hPj
            by_cases hj0 : j = 0
            · subst hj0
              obtain ⟨W3, hW3⟩ : ∃ W3 : World, W3 = wr := ⟨_, rfl⟩
              subst hW3
              have HPO := Lib.hid (show PartOk V X P from ⟨fun i => HPJ.out i (Nat.zero_le _)⟩)
              have hltY : (ad2.add k).block < W3.heap.size := by rw [block_of_add]; exact Nat.lt_of_lt_of_le hab2 hb3.size
              have hcy3 : W3.cell? (ad2.add k) = some (vi y) := (hb3.cell (p := ad2.add k) (by rw [block_of_add]; exact hab2)).trans hcy
              have F3 := F0.below hb3 F0.le
              have hbl3 : b < W3.heap.size := block_lt_of_cell hcr
              have hlP : (fvs P).length = na := by rw [List.length_map]; exact hoP.1
              have hsP := hoP.sl
              have hev := fun W FW hsW => eval_nP p S b (some ⟨W0.heap.size, 0, none⟩) na na (fvs P) hlP (i64_fvs _ hp2) hr x hIx W FW hsW
              simp only [els_fvs] at hev
              rw [← HXE.out] at hev
              obtain ⟨E, hE⟩ : ∃ E, E = ev P X := ⟨_, rfl⟩
              rw [← hE] at hev
              obtain ⟨C, hC⟩ : ∃ C, C = co m k * Zp.inv E := ⟨_, rfl⟩
              have hdiv := fun W hcW => div_any p hp1 hp2 b y (fv E) hIy (i64_fv _ hp2) W hcW
              rw [el_fv, ← HMY.out, ← hC] at hdiv
              have HEV := Lib.hid hev
              have HDIV := Lib.hid hdiv
              have HCE := Lib.hid (show C = co m k * Zp.inv (ev P (co l k)) by rw [hC, hE, HLX.out])
              clear hev hdiv hE hC hlP HPJ hj HP0 HR0
              go_wp2
              go_region_held3 (fun w' => w'.cell? (ad2.add k) = some (vi y)) (first | exact hcy3 | exact (hb5.cell hltY).trans hcy3) ((first | (go_at_call 35; refine (HEV.out _ (by first | exact F3 | exact F3.drewR | exact F3.drewN _) (by exact hsP)).mono ?_; rintro e w5 ⟨rfl, hb5⟩) | (go_at_call 34; refine (HDIV.out _ (by exact (hb5.cell (p := ⟨b, 0, none⟩) hbl3).trans hcr)).mono ?_; rintro e w' ⟨rfl, k5, rfl⟩)))
              have hb35 : Below W3.heap.size W3 (w5.drewN k5) := below_drewN ((show Below W3.heap.size W3 W3.drew from below_drewN (Below.refl _ _) 1).trans hb5) k5
              have hb05 := hb3.trans (hb35.mono hb3.size)
              have hoS5 := hoS.below hb05
              have hoP5 := hoP.below hb35
              have hbr5 := hbr.trans (hb05.mono hbr.size)
              have HSTEP2 := Lib.hid (fun M (hm : FitIn P C na S' M) => HSTEP.out k S' M P C HFSK.out hkl (by rw [HLX.out]; exact HPO.out) (by rw [hoP.1, HLL.out]) HCE.out (by rw [hoP.1]; exact hm))
              generalize w5.drewN k5 = W5 at hb35 hb05 hoS5 hoP5 hbr5 ⊢
              clear hb5 hb05 hcy3 hcr F3 hbl3 hsP HEV HDIV HCE HPO hltY
              go_wp2
              go_loopw [94] (fun t wr => SumRel P S' C na w.heap.size w2.heap.size W0.heap.size w2 t wr) (fun t _ => na - (intOf t).toNat)
              case atStart => exact ⟨0, S', Nat.zero_le _, rfl, hoS5, hoP5, FitIn.start _ _ _, hbr5⟩
              case round =>
                obtain ⟨j, M, hj, rfl, hoM, hoQ, hfi, hbq⟩ := hrel
                have HFI := Lib.hid hfi
                clear hfi
                by_cases hjn : j < na
                · have hcq : wr.cell? ⟨b, 0, none⟩ = some (vi p) := (F2.below hbq F2.le).c0
                  have hcP := hoQ.at_ j hjn
                  have hcM := hoM.at_ j hjn
                  have hfM := hoM.frozen j
                  obtain ⟨q, hq⟩ : ∃ q, q = co P j := ⟨_, rfl⟩
                  rw [← hq] at hcP
                  obtain ⟨o, ho⟩ : ∃ o, o = co M j := ⟨_, rfl⟩
                  rw [← ho] at hcM
                  obtain ⟨T, hT⟩ : ∃ T, T = C * q := ⟨_, rfl⟩
                  obtain ⟨U, hU⟩ : ∃ U, U = o + T := ⟨_, rfl⟩
                  have hst := HFI.out.step (by rw [hoS.1]; exact hjn)
                  rw [← ho, ← hq, ← hT, ← hU] at hst
                  have hmul := fun W hcW => mul_any p hp2 b (fv C) (fv q) (i64_fv _ hp2) (i64_fv _ hp2) W hcW
                  rw [el_fv, el_fv, ← hT] at hmul
                  have hadd := fun W hcW => add_any p hp2 b (fv o) (fv T) (i64_fv _ hp2) (i64_fv _ hp2) W hcW
                  rw [el_fv, el_fv, ← hU] at hadd
                  have HMUL := Lib.hid hmul
                  have HADD := Lib.hid hadd
                  have HST := Lib.hid hst
                  have j1 : (0 : Int) ≤ (j : Int) := by omega
                  have j2 : (j : Int) < na := by omega
                  have hmx : Tryd.prog.follows .mixedOrders = true := by kernel_rfl
                  clear hmul hadd hst hq ho hT hU
                  go_wp2
                  refine wp_region_quiet_tail 13 hmx (by kernel_rfl) ?_
                  simp only [List.take_succ_cons, List.take_zero, List.drop_succ_cons, List.drop_zero]
                  repeat (quiet_step (first | (go_at_call 25; exact Calls.quiet_of (HMUL.out _ (by exact hcq))) | (go_at_call 33; exact Calls.quiet_of (HADD.out _ (by exact hcq)))))
                  refine wpQuiet_nil ?_
                  intro _ hw'
                  obtain ⟨nq1, hw''⟩ := hw'
                  subst hw''
                  have hoM2 := (hoM.drewN nq1).store j U
                  have hoQ2 := (hoQ.drewN nq1).far (q := ⟨w2.heap.size, j, none⟩) (by show W0.heap.size ≠ w2.heap.size; have := hoS.lt.2; omega) (vi (fv U))
                  have hbq2 := (below_drewN hbq nq1).setCell (p := ⟨w2.heap.size, j, none⟩) (Nat.le_refl _) (vi (fv U))
                  go_wp2
                  go_roundw
                  case rel => exact ⟨j + 1, _, by omega, by go_num, hoM2, hoQ2, HST.out, hbq2⟩
                  case measure => simp [intOf]; omega
                · have ej : j = na := by omega
                  have hdn := HSTEP2.out M (by rw [← ej]; exact HFI.out)
                  have HDN := Lib.hid hdn
                  have HEJ := Lib.hid ej
                  clear hdn ej
                  have t1 : ¬ (j : Int) < na := by omega
                  go_wp2
                  go_roundw
                  case rel => exact ⟨k + 1, M, by omega, by go_num, hoM, HDN.out, hbq⟩
                  case measure => simp [intOf]; omega
            · have hjV := (hoV.below hb3).at_ j (by rw [HNV.out]; omega)
              have hcP := hoP.at_ (j - 1) (by omega)
              have hfP := hoP.frozen (j - 1)
              generalize co P (j - 1) = p0 at hcP
              obtain ⟨r, hr'⟩ : ∃ r, r = ev (V.drop (j + 1)) X := ⟨_, rfl⟩
              obtain ⟨vj, hvj⟩ : ∃ vj, vj = co V j := ⟨_, rfl⟩
              have hst : ev (V.drop j) X = vj + r * X := by rw [ev_drop, hvj, hr']; grind
              rw [← hr']
              rw [← hvj] at hjV
              obtain ⟨T, hT⟩ : ∃ T, T = r * X := ⟨_, rfl⟩
              obtain ⟨U, hU⟩ : ∃ U, U = vj + T := ⟨_, rfl⟩
              rw [← hT, ← hU] at hst
              have hmul := fun W hcW => mul_any p hp2 b (fv r) x (i64_fv _ hp2) hIx W hcW
              rw [el_fv, ← HXE.out, ← hT] at hmul
              have hadd := fun W hcW => add_any p hp2 b (fv vj) (fv T) (i64_fv _ hp2) (i64_fv _ hp2) W hcW
              rw [el_fv, el_fv, ← hU] at hadd
              have HMUL := Lib.hid hmul
              have HADD := Lib.hid hadd
              have HST := Lib.hid hst
              have j1 : (0 : Int) < (j : Int) := by omega
              have j2 : (0 : Int) ≤ (j : Int) := by omega
              have j3 : (j : Int) < nv := by have := HNV.out; omega
              have j4 : (0 : Int) ≤ (j : Int) - 1 := by omega
              have j5 : (j : Int) - 1 < na := by omega
              have j6 : ((j : Int) - 1).toNat = j - 1 := by omega
              have j7 : IntKind.i64.wrap ((j : Int) - 1) = (j : Int) - 1 := IntWalk.i64_in _ (by omega)
              clear hmul hadd hst hr' hvj hT hU
              go_wp2
              go_quiet ((first | (go_at_call 25; exact Calls.quiet_of (HMUL.out _ (by exact hcr))) | (go_at_call 33; exact Calls.quiet_of (HADD.out _ (by exact hcr)))))
              go_wp2
              go_roundw
              case rel => exact ⟨j - 1, P.set (j - 1) U, by omega, by congr 1; omega, by rw [show j - 1 + 1 = j by omega, HST.out], (hoP.drewN nq).store (j - 1) U, fun i hi => by
                rw [co_set' _ _ _ (by rw [hoP.1]; omega)]
                by_cases he : i = j - 1
                · rw [if_pos he, he, show j - 1 + 1 = j by omega, HST.out]
                · rw [if_neg he]; exact HPJ.out i (by omega), (below_drewN hb3 nq).setCell (p := ⟨W0.heap.size, j - 1, none⟩) (Nat.le_refl _) _⟩
              case measure => simp [intOf]; omega
        · have ek : na = k := by omega
          subst ek
          have hdn := (show FitSum l m l.length S' by rw [HLL.out]; exact HFSK.out).done
          have hlS : (fvs S').length = na := by rw [List.length_map]; exact hoS.1
          have ht := ptrim_n p hp2 b (some ⟨w2.heap.size, 0, none⟩) na na (fvs S') hlS (i64_fvs _ hp2) (by omega) (Nat.le_refl _) W0 hc0 hoS.sl
          rw [els_fvs] at ht
          generalize trimL S' = O at hdn ht
          have HDN := Lib.hid hdn
          have HT := Lib.hid ht
          have hb0 := hbw2.trans (hbr.mono hbw2.size)
          clear hdn ht hlS
          go_wp2_with fail
          refine (HT.out).mono ?_
          rintro e w4 ⟨v4, rfl, hown4, hb4⟩
          go_wp2
          go_ret2
          exact ⟨O, v4, HDN.out, rfl, hown4.more hb0.size, hb0.trans (hb4.mono hb0.size)⟩
end Go.Proofs.YtiohededmcfhjaaDoor
