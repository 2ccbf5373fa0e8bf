/- A bundle of texts: Spread, Ints, Vals, Code, Coef, Wc, Wd, We, Hm, Wf. -/
import Derived.Test.YtpkhcncempoohaaGreatDoorQ06
import Derived.Test.YtpkhcncempoohaaGreatDoorQ04
import Derived.Deep.RegionHeld3
import Derived.Test.YtpkhcncempoohaaGreatDoorQ02
import Derived.Deep.QuietTactic
import Derived.BigQuiet
import Derived.Outline
import Derived.WalkLawsBesides
import Derived.WalkSpells
import Derived.Test.YtpkhcncempoohaaGreatDoorQ00
import Derived.Test.YtpkhcncempoohaaGreatDoorQ05
import Derived.Deep.DeepCutAuto
import Derived.Laws.MakeOwn
set_option linter.unusedVariables false
set_option linter.unusedSimpArgs false
namespace Go.Proofs.YtpkhcncempoohaaGreatDoor
open Go.RowKit Zp
def SpreadTo (p : Nat) [NeZero p] (base m : Nat) (xs : List Int) (r : Fin p) (w : World) (e : Ending) (w' : World) : Prop :=
  ∃ v' ys, e = .returned v' ∧ Own w' base v' ys ∧ (∀ y ∈ ys, I64 y) ∧ els p ys = dft r m (els p xs) ∧ (m = 1 → ys = xs) ∧ (m ≠ 1 → ys = fvs (dft r m (els p xs))) ∧ Below w.heap.size w w'
def SpreadSpec (p S D b : Nat) [NeZero p] (n : Nat) (s : Fin p) (m : Nat) : Prop :=
  ∀ (w : World) (base : Nat) (v : Value) (xs : List Int) (r : Int), xs.length = m → (∀ x ∈ xs, I64 x) → I64 r → (m = 1 ∨ ∃ h, m = 2 * h ∧ pw (el p r) h = -1) → Dom w S D b p n s → Own w base v xs → base ≤ w.heap.size →
    Calls Tryz.prog 65 #[.pointer (some ⟨D, 0, none⟩), v, vi r] w fun e w' => SpreadTo p base m xs (el p r) w e w'
theorem dft_one {p : Nat} [NeZero p] (r x : Fin p) : dft r 1 [x] = [x] := by
  have : ev [x] (pw r 0) = x := by simp only [ev, pw_zero]; grind
  unfold dft tab
  rw [List.range_one, List.map_singleton, this]
theorem spread_one (p S D b : Nat) [NeZero p] (n : Nat) (s : Fin p) : SpreadSpec p S D b n s 1 := by
  intro w base v xs r hl hx hr _ hD ho hb
  obtain ⟨g, c, rfl, _, _⟩ := ho.block (by omega)
  have hd : els p xs = dft (el p r) 1 (els p xs) := by
    match xs, hl with
    | [x], _ => exact (dft_one _ _).symm
  have t1 : (((1 : Nat) : Int) == 1) = true := rfl
  rw [hl]
  have HL := Lib.hid hl
  have HD := Lib.hid hd
  clear hl hd
  go_enter Tryz.func65, Tryz.ntmps65
  go_wp2
  go_ret
  exact ⟨_, xs, rfl, by rw [HL.out] at ho; exact ho, hx, HD.out, fun _ => rfl, fun h => absurd rfl h, Below.refl _ _⟩
theorem grew_apart {wr w1 : World} {base : Nat} {v v' u : Value} {xs zs ys : List Int} (hd : ∀ g, v.ownBlock = some g → u.ownBlock ≠ some g) (hg : Grew wr w1 base v v' xs) (hv : Own wr base v zs) (hu : Own wr base u ys) :
    Own w1 base u ys ∧ ∀ g, v'.ownBlock = some g → u.ownBlock ≠ some g := by
  refine ⟨hu.grown hg.grown ?_, fun g hg' hu' => ?_⟩
  · cases e : u.ownBlock with
    | none => exact .inl rfl
    | some g => exact .inr fun h => hd g h.symm e
  · rcases hg.at_ with h | ⟨k, h1, h2⟩
    · exact hd g (h ▸ hg') hu'
    · rw [hg'] at h1
      injection h1 with h1
      have := (hu.lt g hu').2
      omega
def HalfRel (xs : List Int) (w : World) (ve vo i : Value) (wr : World) : Prop := ∃ j : Nat, j ≤ xs.length ∧ i = vi j ∧ Own wr w.heap.size ve (evI xs j) ∧ Own wr w.heap.size vo (odI xs j) ∧ (∀ g, ve.ownBlock = some g → vo.ownBlock ≠ some g) ∧ Below w.heap.size w wr
def JoinRel {p : Nat} [NeZero p] (r : Fin p) (l : List (Fin p)) (base m g : Nat) (x i : Value) (wr : World) : Prop := ∃ (j : Nat) (L : List (Fin p)), j ≤ m ∧ i = vi j ∧ x = vi (fv (pw r j)) ∧ OwnE wr base g (2 * m) L ∧ ∀ t, t < j → co L t = ev l (pw r t) ∧ co L (t + m) = ev l (pw r (t + m))
theorem join_step {p : Nat} [NeZero p] {l L : List (Fin p)} {R U V : Fin p} {t m : Nat} (htm : t < m) (hl : t + m < L.length) (h : ∀ j, j < t → co L j = ev l (pw R j) ∧ co L (j + m) = ev l (pw R (j + m))) (hU : U = ev l (pw R t)) (hV : V = ev l (pw R (t + m))) :
    ∀ j, j < t + 1 → co ((L.set t U).set (t + m) V) j = ev l (pw R j) ∧ co ((L.set t U).set (t + m) V) (j + m) = ev l (pw R (j + m)) := by
  intro j hj
  have e : ∀ x, co ((L.set t U).set (t + m) V) x = if x = t + m then V else if x = t then U else co L x := fun x => by
    rw [co_set _ _ _ (by simpa using hl), co_set _ _ _ (by omega)]
  rw [e, e, if_neg (by omega), if_neg (c := j + m = t) (by omega)]
  by_cases he : j = t
  · subst he
    rw [if_pos rfl, if_pos rfl]; exact ⟨hU, hV⟩
  · rw [if_neg he, if_neg (by omega)]; exact h j (by omega)
theorem join_done {p : Nat} [NeZero p] {l L : List (Fin p)} {R : Fin p} {m : Nat} (hl : L.length = 2 * m) (h : ∀ j, j < m → co L j = ev l (pw R j) ∧ co L (j + m) = ev l (pw R (j + m))) : L = dft R (2 * m) l := by
  refine ext_co (by rw [hl, dft_length]) fun i hi => ?_
  rw [dft, co_tab, if_pos (by omega)]
  by_cases h1 : i < m
  · exact (h i h1).1
  · have := (h (i - m) (by omega)).2
    rwa [show i - m + m = i from by omega] at this
set_option maxRecDepth 100000 in
set_option maxHeartbeats 2000000 in
theorem spread_step (p S D b : Nat) [NeZero p] (n : Nat) (s : Fin p) (m : Nat) (hm1 : 1 ≤ m) (hm2 : 2 * m ≤ 65536) (hpow : m = 1 ∨ ∃ h, m = 2 * h) (IH : SpreadSpec p S D b n s m) : SpreadSpec p S D b n s (2 * m) := by
  intro w base v xs r hl hx hr hcond hD ho hb
  have hrm : pw (el p r) m = -1 := by
    rcases hcond with h | ⟨h, e, e2⟩
    · omega
    · rw [show m = h from by omega]; exact e2
  have hcond2 : m = 1 ∨ ∃ h, m = 2 * h ∧ pw (el p r * el p r) h = -1 := hpow.imp id fun ⟨h, e⟩ => ⟨h, e, by
    rw [← hrm, e, pw_mul]
    congr 1
    simp only [pw]; grind⟩
  obtain ⟨g, c, rfl, hg1, hg2⟩ := ho.block (by omega)
  have hp2 := hD.fld.max
  have hsr := fun w' => @Own.below w w' base
  obtain ⟨R, hR⟩ : ∃ R, R = el p r := ⟨_, rfl⟩
  rw [← hR] at hrm hcond2 ⊢
  have HR := Lib.hid hR
  have HRM := Lib.hid hrm
  have HC2 := Lib.hid hcond2
  have HIH := Lib.hid IH
  have t0 : (((2 * m : Nat) : Int) == 1) = false := by rw [beq_eq_false_iff_ne]; omega
  rw [hl]
  have HL := Lib.hid hl
  clear hR hrm hcond hcond2 hpow IH hsr hl
  obtain ⟨N, hN⟩ : ∃ N, N = 2 * m := ⟨_, rfl⟩
  rw [← hN] at t0 hm2 HL ⊢
  have HN := Lib.hid hN
  have hN2 : m < N := by omega
  have hN3 : (N : Int) / 2 = (m : Int) := by omega
  clear hN
  go_enter Tryz.func65, Tryz.ntmps65
  go_wp2_with fail
  go_loopw [8, 9, 24] (fun ve vo i wr => HalfRel xs w ve vo i wr) (fun _ _ i _ => N - (intOf i).toNat)
  case atStart => exact ⟨0, Nat.zero_le _, rfl, World.ownsRow_nil _ _ _ _, World.ownsRow_nil _ _ _ _, fun g h => by simp [Value.ownBlock] at h, Below.refl _ _⟩
  case round =>
    obtain ⟨j, hj, rfl, hve, hvo, hap, hbw⟩ := hrel
    rw [HL.out] at hj
    by_cases hlt : j < N
    · have hjx : j < xs.length := by rw [HL.out]; exact hlt
      have hown := ho.below hbw
      have hcell := hown.at_ rfl j hjx
      have hI := hx _ (List.getElem_mem hjx)
      have hle1 : (evI xs j).length < 17592186044416 := by simp [evI]; omega
      have hle2 : (odI xs j).length < 17592186044416 := by simp [odI]; omega
      have hpar : j % 2 = 0 ∨ ¬ j % 2 = 0 := by omega
      rcases hpar with hev | hod
      · obtain ⟨e1, e2⟩ := evI_even hev hjx
        have t1 : ((j : Int) % 2 == 0) = true := by rw [beq_iff_eq]; omega
        obtain ⟨x, hxj⟩ : ∃ x, x = xs[j] := ⟨_, rfl⟩
        rw [← hxj] at hI hcell e1
        have E1 := Lib.hid e1
        have E2 := Lib.hid e2
        have HAP := Lib.hid hap
        clear hxj e1 e2 hev hap
        go_wp2_with (at_builtin; refine wpList_app1 wr x rfl _ _ rfl w.heap.size _ _ rfl rfl hve hle1 hbw.size ?_; intro v' w1 hg)
        obtain ⟨hvo1, hap1⟩ := grew_apart HAP.out hg hve hvo
        go_roundw
        case rel => exact ⟨j + 1, by rw [HL.out]; omega, by go_num, by rw [← E1.out]; exact hg.own, by rw [E2.out]; exact hvo1, hap1, hg.below hbw hve (Nat.le_refl _) hbw.size⟩
        case measure => simp [intOf]; omega
      · obtain ⟨e1, e2⟩ := odI_odd hod hjx
        have t1 : ((j : Int) % 2 == 0) = false := by rw [beq_eq_false_iff_ne]; omega
        obtain ⟨x, hxj⟩ : ∃ x, x = xs[j] := ⟨_, rfl⟩
        rw [← hxj] at hI hcell e1
        have E1 := Lib.hid e1
        have E2 := Lib.hid e2
        have hap' := fun (g : Nat) h1 h2 => hap g h2 h1
        have HAP := Lib.hid hap'
        clear hxj e1 e2 hod hap hap'
        go_wp2_with (at_builtin; refine wpList_app1 wr x rfl _ _ rfl w.heap.size _ _ rfl rfl hvo hle2 hbw.size ?_; intro v' w1 hg)
        obtain ⟨hve1, hap1⟩ := grew_apart HAP.out hg hvo hve
        go_roundw
        case rel => exact ⟨j + 1, by rw [HL.out]; omega, by go_num, by rw [E2.out]; exact hve1, by rw [← E1.out]; exact hg.own, fun g h1 h2 => hap1 g h2 h1, hg.below hbw hvo (Nat.le_refl _) hbw.size⟩
        case measure => simp [intOf]; omega
    · obtain rfl : j = N := by omega
      obtain ⟨hE1, hO1⟩ := els_evI (p := p) (xs := xs) (m := m) (by rw [HL.out, HN.out])
      rw [← HN.out] at hE1 hO1
      obtain ⟨hE2, hO2⟩ := evI_mem (P := I64) (by constructor <;> omega) hx j
      have hE3 : (evI xs j).length = m := by have := HN.out; simp [evI]; omega
      have hO3 : (odI xs j).length = m := by have := HN.out; simp [odI]; omega
      obtain ⟨E, hE⟩ : ∃ E, E = evI xs j := ⟨_, rfl⟩
      obtain ⟨O, hO⟩ : ∃ O, O = odI xs j := ⟨_, rfl⟩
      rw [← hE] at hE1 hE2 hE3 hve
      rw [← hO] at hO1 hO2 hO3 hvo
      have HE1 := Lib.hid hE1
      have HO1 := Lib.hid hO1
      have HE3 := Lib.hid hE3
      have HO3 := Lib.hid hO3
      clear hE1 hO1 hE3 hO3 hE hO hap
      have hDr := hD.below hbw hD.le
      have hcd := hDr.c0
      have hcb := hDr.fld.c0
      go_wp2_with fail
      refine (mul_any p hp2 b r r hr hr _ hcb).mono ?_
      rintro e w1 ⟨rfl, k1, rfl⟩
      rw [← HR.out]
      have hsq : I64 (fv (R * R)) := i64_fv _ hp2
      have hc2 : m = 1 ∨ ∃ h, m = 2 * h ∧ pw (el p (fv (R * R))) h = -1 := by rw [el_fv]; exact HC2.out
      have HC3 := Lib.hid hc2
      clear hc2
      go_wp2_with fail
      refine (HIH.out _ w.heap.size _ E (fv (R * R)) HE3.out hE2 hsq HC3.out (hDr.drewN k1) (hve.drewN k1) hbw.size).mono ?_
      rintro e w2 ⟨ve2, ys, rfl, hve2, hys, hysd, _, _, hb2⟩
      have hDs := (hDr.drewN k1).below hb2 (hDr.drewN k1).le
      have hvo1 := (hvo.drewN k1).below hb2
      have hbw2 : Below w.heap.size w w2 := (below_drewN hbw k1).trans (hb2.mono hbw.size)
      go_wp2_with fail
      refine (HIH.out _ w.heap.size _ O (fv (R * R)) HO3.out hO2 hsq HC3.out hDs hvo1 hbw2.size).mono ?_
      rintro e w3 ⟨vo2, zs, rfl, hvo2, hzs, hzsd, _, _, hb3⟩
      have hDt := hDs.below hb3 hDs.le
      have hve3 := hve2.below hb3
      have hbw3 : Below w.heap.size w w3 := hbw2.trans (hb3.mono hbw2.size)
      rw [el_fv, HE1.out] at hysd
      rw [el_fv, HO1.out] at hzsd
      have hysl : ys.length = m := by have := congrArg List.length hysd; rw [dft_length] at this; simpa using this
      have hzsl : zs.length = m := by have := congrArg List.length hzsd; rw [dft_length] at this; simpa using this
      have HYS := Lib.hid hysd
      have HZS := Lib.hid hzsd
      have HYL := Lib.hid hysl
      have HZL := Lib.hid hzsl
      clear hDr hcd hcb hve hvo hve2 hDs hvo1 hbw hbw2 hb2 hb3 hysd hzsd
      obtain ⟨gy, cy, e1, _, _⟩ := hve3.block (by rw [hysl]; omega)
      obtain ⟨gz, cz, e2, _, _⟩ := hvo2.block (by rw [hzsl]; omega)
      rw [hysl] at e1
      rw [hzsl] at e2
      subst e1 e2
      clear hysl hzsl
      have hmk := make_ints j j (Nat.le_refl _) (by omega)
      have hOE := OwnE.made (p := p) w3 w.heap.size j hbw3.size (by omega)
      rw [HN.out] at hOE
      have hDl := hDt.le
      go_wp2
      go_loopw [14, 60] (fun x i wr => JoinRel R (els p xs) w.heap.size m w3.heap.size x i wr ∧ Below w3.heap.size w3 wr) (fun _ i _ => m - (intOf i).toNat)
      case atStart => exact ⟨⟨0, _, Nat.zero_le _, rfl, by rw [pw_zero, fv_one hDt.fld.two], by rw [HN.out]; exact hOE, fun t ht => absurd ht (by omega)⟩, (Below.refl _ _).alloc (Nat.le_refl _) _⟩
      case round =>
        obtain ⟨⟨t, L, ht, rfl, rfl, hoe, hco⟩, hbl⟩ := hrel
        have hDw := hDt.below hbl hDl
        have hcd := hDw.c0
        have hcb := hDw.fld.c0
        have HCO := Lib.hid hco
        clear hco
        by_cases hlt : t < m
        · have hty : t < ys.length := by rw [HYL.out]; exact hlt
          have htz : t < zs.length := by rw [HZL.out]; exact hlt
          have hc1 := (hve3.below hbl).at_ HYL.out.symm t hty
          have hc2 := (hvo2.below hbl).at_ HZL.out.symm t htz
          have ha0 := hys _ (List.getElem_mem hty)
          have hz0 := hzs _ (List.getElem_mem htz)
          have hA : el p ys[t] = ev (evens (els p xs)) (pw (R * R) t) := by
            have h : co (els p ys) t = el p ys[t] := by rw [co_of_lt (by simpa using hty)]; simp
            rw [← h, HYS.out, dft, co_tab, if_pos hlt]
          have hZ : el p zs[t] = ev (odds (els p xs)) (pw (R * R) t) := by
            have h : co (els p zs) t = el p zs[t] := by rw [co_of_lt (by simpa using htz)]; simp
            rw [← h, HZS.out, dft, co_tab, if_pos hlt]
          obtain ⟨a0, hae⟩ : ∃ a, a = ys[t] := ⟨_, rfl⟩
          obtain ⟨z0, hze⟩ : ∃ z, z = zs[t] := ⟨_, rfl⟩
          rw [← hae] at hc1 ha0 hA
          rw [← hze] at hc2 hz0 hZ
          obtain ⟨X, hX⟩ : ∃ X, X = pw R t := ⟨_, rfl⟩
          rw [← hX]
          obtain ⟨Y, hY⟩ : ∃ Y, Y = X * el p z0 := ⟨_, rfl⟩
          obtain ⟨U, hU⟩ : ∃ U, U = el p a0 + Y := ⟨_, rfl⟩
          obtain ⟨V, hV⟩ : ∃ V, V = el p a0 - Y := ⟨_, rfl⟩
          have hU2 : U = ev (els p xs) (pw R t) := by rw [hU, hY, hX, hA, hZ]; exact (dft_lo R _ t).symm
          have hV2 : V = ev (els p xs) (pw R (t + m)) := by rw [hV, hY, hX, hA, hZ]; exact (dft_hi HRM.out _ t).symm
          have iX : I64 (fv X) := i64_fv X hp2
          have iY : I64 (fv Y) := i64_fv Y hp2
          have hmul : ∀ W : World, W.cell? ⟨b, 0, none⟩ = some (vi p) → Calls Tryz.prog 69 #[.pointer (some ⟨b, 0, none⟩), vi (fv X), vi z0] W fun e w' => e = .returned (vi (fv Y)) ∧ ∃ k, w' = W.drewN k := fun W h => by
            have := mul_any p hp2 b (fv X) z0 iX hz0 W h
            rw [el_fv, ← hY] at this; exact this
          have hadd : ∀ W : World, W.cell? ⟨b, 0, none⟩ = some (vi p) → Calls Tryz.prog 98 #[.pointer (some ⟨b, 0, none⟩), vi a0, vi (fv Y)] W fun e w' => e = .returned (vi (fv U)) ∧ ∃ k, w' = W.drewN k := fun W h => by
            have := add_any p hp2 b a0 (fv Y) ha0 iY W h
            rw [el_fv, ← hU] at this; exact this
          have hsub : ∀ W : World, W.cell? ⟨b, 0, none⟩ = some (vi p) → Calls Tryz.prog 94 #[.pointer (some ⟨b, 0, none⟩), vi a0, vi (fv Y)] W fun e w' => e = .returned (vi (fv V)) ∧ W = w' := fun W h => by
            have := sub_any p hp2 b a0 (fv Y) ha0 iY W h
            rw [el_fv, ← hV] at this; exact this
          have hX1 : X * R = pw R (t + 1) := by rw [hX, pw_succ]
          have hnx : ∀ W : World, W.cell? ⟨b, 0, none⟩ = some (vi p) → Calls Tryz.prog 69 #[.pointer (some ⟨b, 0, none⟩), vi (fv X), vi r] W fun e w' => e = .returned (vi (fv (pw R (t + 1)))) ∧ ∃ k, w' = W.drewN k := fun W h => by
            have := mul_any p hp2 b (fv X) r iX hr W h
            rw [el_fv, ← HR.out, hX1] at this; exact this
          have HMUL := Lib.hid hmul
          have HADD := Lib.hid hadd
          have HSUB := Lib.hid hsub
          have HNX := Lib.hid hnx
          have HU := Lib.hid hU2
          have HV := Lib.hid hV2
          clear hmul hadd hsub hnx hX1 hU2 hV2 hU hV hY hX hae hze hA hZ
          have i1 : (0 : Int) ≤ t := by omega
          have i2 : (t : Int) < m := by omega
          have i3 : (t : Int) < j := by omega
          have i4 : IntKind.i64.wrap ((t : Int) + m) = (t : Int) + m := IntWalk.i64_in _ (by omega)
          have i5 : (0 : Int) ≤ (t : Int) + m := by omega
          have i6 : (t : Int) + m < j := by have := HN.out; omega
          have i7 : ((t : Int) + m).toNat = t + m := by omega
          have i9 : IntKind.i64.wrap (m : Int) = (m : Int) := IntWalk.i64_in _ (by constructor <;> omega)
          have hf1 := hoe.frozen t
          have hf2 := hoe.frozen (t + m)
          have ho1 := hoe.at_ t (by omega)
          have ho2 := hoe.at_ (t + m) (by omega)
          have hne1 : ¬ D = w3.heap.size := by have := hDt.lt; omega
          have hne3 : ¬ gy = w3.heap.size := by have := (hve3.lt gy rfl).2; omega
          have hne2 : ¬ b = w3.heap.size := by have := hDt.fld.lt; omega
          have hmx : Tryz.prog.follows .mixedOrders = true := by kernel_rfl
          go_wp2
          go_quiet ((go_at_call 69; exact Calls.quiet_of (HMUL.out _ (by exact hcb))))
          go_wp2
          go_region_held3 (fun w' => w'.cell? ⟨D, 0, none⟩ = some (.pointer (some ⟨b, 0, none⟩)) ∧ w'.cell? ⟨gy, t, none⟩ = some (vi a0) ∧ w'.cell? ⟨b, 0, none⟩ = some (vi p)) (first | exact ⟨hcd, hc1, hcb⟩ | exact ⟨setCell_keep hcd hne1, setCell_keep hc1 hne3, setCell_keep hcb hne2⟩ | exact ⟨setCell_keep (setCell_keep hcd hne1) hne1, setCell_keep (setCell_keep hc1 hne3) hne3, setCell_keep (setCell_keep hcb hne2) hne2⟩) ((first | (go_at_call 98; refine (HADD.out _ (by exact hcb)).mono ?_; rintro e w' ⟨rfl, k3, rfl⟩) | (go_at_call 94; refine (HSUB.out _ (by exact hcb)).mono ?_; rintro e w' ⟨rfl, rfl⟩)))
          clear i4 i9 i5 i6 i7
          go_wp2_with fail
          refine (HNX.out _ (by exact setCell_keep (setCell_keep hcb hne2) hne2)).mono ?_
          rintro e w5 ⟨rfl, k5, rfl⟩
          go_wp2
          go_roundw
          case rel =>
            have h1 : OwnE (wr.drewN (nq + 1 + k3)) w.heap.size w3.heap.size (2 * m) L := hoe
            have h2 := (h1.store t U).store (t + m) V
            refine ⟨⟨t + 1, _, by omega, by go_num, rfl, h2, join_step hlt (by rw [hoe.1]; omega) HCO.out HU.out HV.out⟩, ?_⟩
            exact below_drewN (((below_drewN hbl (nq + 1 + k3)).setCell (p := ⟨w3.heap.size, t, none⟩) (Nat.le_refl _) _).setCell (p := ⟨w3.heap.size, t + m, none⟩) (Nat.le_refl _) _) k5
          case measure => simp [intOf]; omega
        · obtain rfl : t = m := by omega
          have hLd : L = dft R (2 * t) (els p xs) := join_done hoe.1 HCO.out
          have HLD := Lib.hid hLd
          clear hLd
          go_wp2
          go_ret
          have ho3 := hoe.2.more hb
          rw [← HN.out] at ho3
          refine ⟨_, fvs L, rfl, ho3, i64_fvs L hp2, ?_, fun h => by have := HN.out; omega, fun _ => ?_, hbw3.trans (hbl.mono hbw3.size)⟩
          · rw [els_fvs, HN.out]; exact HLD.out
          · rw [HN.out]; exact congrArg fvs HLD.out
theorem spread_any (p S D b : Nat) [NeZero p] (n : Nat) (s : Fin p) : ∀ k, k ≤ 16 → SpreadSpec p S D b n s (2 ^ k)
  | 0, _ => spread_one p S D b n s
  | k + 1, hk => by
    have h1 : 2 ^ k ≤ 2 ^ 15 := Nat.pow_le_pow_right (by omega) (by omega)
    have h2 : 1 ≤ 2 ^ k := Nat.pow_pos (by omega)
    rw [Nat.pow_succ, Nat.mul_comm]
    refine spread_step p S D b n s (2 ^ k) h2 (by omega) ?_ (spread_any p S D b n s k (by omega))
    cases k with
    | zero => exact .inl rfl
    | succ k => exact .inr ⟨2 ^ k, by rw [Nat.pow_succ, Nat.mul_comm]⟩
end Go.Proofs.YtpkhcncempoohaaGreatDoor

namespace Go.Proofs.YtpkhcncempoohaaGreatDoor
open Go.RowKit
theorem clip_any (A : Option Addr) (n c : Nat) (hn : n ≤ c) (hc : c ≤ 9223372036854775807) (w : World) :
    Calls Tryz.prog 102 #[.slice A n c] w fun e w' => e = .returned (.slice A n n) ∧ w = w' := by
  go_enter Tryz.func102, Tryz.ntmps102
  go_wp2
  go_ret
  exact ⟨rfl, rfl⟩
end Go.Proofs.YtpkhcncempoohaaGreatDoor

namespace Go.Proofs.YtpkhcncempoohaaGreatDoor
open Go.RowKit Zp
theorem root_cond {p : Nat} [NeZero p] (hp : IsPrime p) {n : Nat} (h : SizeOk p n) {r : Fin p} (hr : Ord r n) : n = 1 ∨ ∃ m, n = 2 * m ∧ pw r m = -1 := by
  obtain ⟨⟨k, _, e⟩, _⟩ := h
  cases k with
  | zero => exact .inl e
  | succ k =>
    have e2 : n = 2 * 2 ^ k := by rw [e, Nat.pow_succ, Nat.mul_comm]
    rw [e2] at hr
    exact .inr ⟨2 ^ k, e2, ord_half hp (Nat.pow_pos (by omega)) hr⟩
def ValRel {p : Nat} [NeZero p] (s : Fin p) (n : Nat) (xs : List Int) (w : World) (g : Nat) (sh i : Value) (wr : World) : Prop := ∃ (k : Nat) (L : List (Fin p)), k ≤ xs.length ∧ i = vi k ∧ sh = vi (fv (pw s k)) ∧ OwnE wr w.heap.size g n L ∧ Wrapped s n (els p xs) k L ∧ Below w.heap.size w wr
def GivesB (xs : List Int) (w : World) (e : Ending) (w' : World) : Prop := ∃ A c, e = .returned (.slice A xs.length c) ∧ xs.length ≤ c ∧ c ≤ maxLen ∧ SL w' A xs ∧ Below w.heap.size w w' ∧ ∀ ad, A = some ad → ∃ cs, Blk w' ad.block 3 cs
theorem GivesB.g {xs : List Int} {w w' : World} {e : Ending} (h : GivesB xs w e w') : Gives xs w e w' := by
  obtain ⟨A, c, h1, h2, h3, h4, h5, _⟩ := h
  exact ⟨A, c, h1, h2, h3, h4, h5⟩
def GivesW (xs : List Int) (w : World) (e : Ending) (w' : World) : Prop := ∃ A c, e = .returned (.slice A xs.length c) ∧ xs.length ≤ c ∧ c ≤ maxLen ∧ SL w' A xs ∧ Below w.heap.size w w' ∧ ∀ ad, A = some ad → w.heap.size ≤ ad.block ∧ ∃ cs, Blk w' ad.block 3 cs
theorem GivesW.b {xs : List Int} {w w' : World} {e : Ending} (h : GivesW xs w e w') : GivesB xs w e w' := by
  obtain ⟨A, c, h1, h2, h3, h4, h5, h6⟩ := h
  exact ⟨A, c, h1, h2, h3, h4, h5, fun ad had => (h6 ad had).2⟩
theorem own_in {w : World} {base n c : Nat} {A : Option Addr} {xs : List Int} (h : Own w base (.slice A n c) xs) : ∀ ad, A = some ad → ∃ cs, Blk w ad.block 3 cs := fun ad e => by
  rcases h.2 with ⟨e1, _⟩ | ⟨g', cap, cur, e1, _, hh, _⟩
  · injection e1 with e1 _ _
    rw [e] at e1
    cases e1
  · injection e1 with e1 _ _
    rw [e] at e1
    injection e1 with e1
    subst e1
    exact ⟨cur, hh⟩
set_option maxRecDepth 100000 in
set_option maxHeartbeats 2000000 in
theorem values_new (p S D b : Nat) [NeZero p] (n : Nat) (s : Fin p) (A : Option Addr) (cap : Nat) (xs : List Int) (hxs : ∀ x ∈ xs, I64 x) (hreach : xs.length * 8 ≤ 281474976710656) (w : World) (hD : Dom w S D b p n s) (hs : SL w A xs) :
    Calls Tryz.prog 63 #[.pointer (some ⟨D, 0, none⟩), .slice A xs.length cap] w fun e w' => GivesW (fvs (valL s (rootI p n) n (els p xs))) w e w' := by
  have hp := hD.fld.prime
  have hp1 := hD.fld.two
  have hp2 := hD.fld.max
  have hn0 := hD.size.pos
  have hn1 := hD.size.le
  have hDle := hD.le
  have hc1 := hD.c1
  obtain ⟨len, hlen⟩ : ∃ len, len = xs.length := ⟨_, rfl⟩
  rw [← hlen]
  rw [← hlen] at hreach
  have HL := Lib.hid hlen
  clear hlen
  obtain ⟨R, hR⟩ : ∃ R, R = fvs (valL s (rootI p n) n (els p xs)) := ⟨_, rfl⟩
  rw [← hR]
  have HR := Lib.hid hR
  clear hR
  have hmk := make_ints n n (Nat.le_refl _) (by omega)
  have hOE := OwnE.made (p := p) w w.heap.size n (Nat.le_refl _) (by omega)
  go_enter Tryz.func63, Tryz.ntmps63
  go_wp2
  go_loopw [6, 16] (fun sh i wr => ValRel s n xs w w.heap.size sh i wr) (fun _ i _ => len - (intOf i).toNat)
  case atStart => exact ⟨0, _, Nat.zero_le _, rfl, by rw [pw_zero, fv_one hp1], hOE, Wrapped.start s n _, (Below.refl _ _).alloc (Nat.le_refl _) _⟩
  case round =>
    obtain ⟨k, L, hk, rfl, rfl, hoe, hwr, hb⟩ := hrel
    rw [← HL.out] at hk
    have HWR := Lib.hid hwr
    clear hwr
    have hDr := hD.below hb hDle
    have hd0 := hDr.c0
    have hd1 := hDr.c1
    have hd2 := hDr.c2
    have hd3 := hDr.c3
    have hcb := hDr.fld.c0
    by_cases hlt : k < len
    · have hkx : k < xs.length := by rw [← HL.out]; exact hlt
      obtain ⟨ad, rfl, _, hcell⟩ := (hs.below hb).at_ hkx
      have hI := hxs _ (List.getElem_mem hkx)
      have hxe : co (els p xs) k = el p xs[k] := by rw [co_of_lt (by simpa using hkx)]; simp
      obtain ⟨x, hx⟩ : ∃ x, x = xs[k] := ⟨_, rfl⟩
      rw [← hx] at hI hcell hxe
      obtain ⟨j, hj⟩ : ∃ j, j = k % n := ⟨_, rfl⟩
      have hjn : j < n := by rw [hj]; exact Nat.mod_lt _ hn0
      have hst := HWR.out.step hn0 (by simpa using hkx)
      rw [← hj, hxe] at hst
      obtain ⟨X, hX⟩ : ∃ X, X = pw s k := ⟨_, rfl⟩
      rw [← hX] at hst ⊢
      obtain ⟨Y, hY⟩ : ∃ Y, Y = X * el p x := ⟨_, rfl⟩
      obtain ⟨o, ho⟩ : ∃ o, o = co L j := ⟨_, rfl⟩
      obtain ⟨U, hU⟩ : ∃ U, U = o + Y := ⟨_, rfl⟩
      rw [← hY, ← ho, ← hU] at hst
      have hol := hoe.at_ j hjn
      rw [← ho] at hol
      have hof := hoe.frozen j
      have iX : I64 (fv X) := i64_fv X hp2
      have iY : I64 (fv Y) := i64_fv Y hp2
      have io : I64 (fv o) := i64_fv o hp2
      have iS : I64 (fv s) := i64_fv s hp2
      have hmul : ∀ W : World, W.cell? ⟨b, 0, none⟩ = some (vi p) → Calls Tryz.prog 69 #[.pointer (some ⟨b, 0, none⟩), vi (fv X), vi x] W fun e w' => e = .returned (vi (fv Y)) ∧ ∃ k, w' = W.drewN k := fun W h => by
        have := mul_any p hp2 b (fv X) x iX hI W h
        rw [el_fv, ← hY] at this; exact this
      have hadd : ∀ W : World, W.cell? ⟨b, 0, none⟩ = some (vi p) → Calls Tryz.prog 98 #[.pointer (some ⟨b, 0, none⟩), vi (fv o), vi (fv Y)] W fun e w' => e = .returned (vi (fv U)) ∧ ∃ k, w' = W.drewN k := fun W h => by
        have := add_any p hp2 b (fv o) (fv Y) io iY W h
        rw [el_fv, el_fv, ← hU] at this; exact this
      have hX1 : X * s = pw s (k + 1) := by rw [hX, pw_succ]
      have hnx : ∀ W : World, W.cell? ⟨b, 0, none⟩ = some (vi p) → Calls Tryz.prog 69 #[.pointer (some ⟨b, 0, none⟩), vi (fv X), vi (fv s)] W fun e w' => e = .returned (vi (fv (pw s (k + 1)))) ∧ ∃ k, w' = W.drewN k := fun W h => by
        have := mul_any p hp2 b (fv X) (fv s) iX iS W h
        rw [el_fv, el_fv, hX1] at this; exact this
      have HMUL := Lib.hid hmul
      have HADD := Lib.hid hadd
      have HNX := Lib.hid hnx
      have HST := Lib.hid hst
      have et : (k : Int).tmod n = (j : Int) := by rw [Int.tmod_eq_emod_of_nonneg (by omega), hj, Int.natCast_emod]
      have hn0' : ¬ n = 0 := by omega
      have i1 : (0 : Int) ≤ j := by omega
      have i2 : (j : Int) < n := by omega
      have hne1 : ¬ D = w.heap.size := by have := hD.lt; omega
      have hne2 : ¬ b = w.heap.size := by have := hD.fld.lt; omega
      clear hmul hadd hnx hst hX1 hU ho hY hX hj hx hxe
      have hmx : Tryz.prog.follows .mixedOrders = true := by kernel_rfl
      go_wp2
      refine wp_region_quiet_tail 29 hmx (by kernel_rfl) ?_
      simp only [List.take_succ_cons, List.take_zero, List.drop_succ_cons, List.drop_zero]
      repeat (quiet_step (first | (go_at_call 69; exact Calls.quiet_of (HMUL.out _ (by exact hcb))) | (go_at_call 98; exact Calls.quiet_of (HADD.out _ (by exact hcb)))))
      refine wpQuiet_nil ?_
      intro _ hw'
      obtain ⟨nq1, hw''⟩ := hw'
      subst hw''
      clear et i1 i2
      go_wp2
      go_quiet ((go_at_call 69; exact Calls.quiet_of (HNX.out _ (by exact setCell_keep hcb hne2))))
      go_wp2
      go_roundw
      case rel =>
        have h1 : OwnE (wr.drewN nq1) w.heap.size w.heap.size n L := hoe
        exact ⟨k + 1, L.set j U, by rw [← HL.out]; omega, by go_num, rfl, h1.store j U, HST.out, below_drewN ((below_drewN hb nq1).setCell (p := ⟨w.heap.size, j, none⟩) (Nat.le_refl _) _) _⟩
      case measure => simp [intOf]; omega
    · obtain rfl : k = len := by omega
      have hord := rootI_ord hp hn0 hD.size.2
      have hcond := root_cond hp hD.size hord
      have hdone := (show Wrapped s n (els p xs) (els p xs).length L by rw [List.length_map, ← HL.out]; exact HWR.out).done hord.one
      obtain ⟨⟨kk, hkk, hnk⟩, _⟩ := hD.size
      have hsp := spread_any p S D b n s kk hkk
      rw [← hnk] at hsp
      have hrun := hsp wr w.heap.size (.slice (some ⟨w.heap.size, 0, none⟩) n n) (fvs L) (fv (rootI p n)) (by simp [hoe.1]) (i64_fvs L hp2) (i64_fv _ hp2) (by rw [el_fv]; exact hcond) hDr hoe.2 hb.size
      have HRUN := Lib.hid hrun
      have HDONE := Lib.hid hdone
      clear hsp hrun hdone hcond hord hnk hd0 hd1 hd2 hcb
      go_wp2_with fail
      refine (HRUN.out).mono ?_
      rintro e w1 ⟨v1, ys, rfl, hown, _, hyd, hy1, hy2, hb1⟩
      rw [el_fv, els_fvs, HDONE.out] at hyd hy2
      have hys : ys = R := by
        rw [HR.out]
        by_cases h1 : n = 1
        · rw [hy1 h1, ← hyd, hy1 h1, els_fvs]
        · exact hy2 h1
      obtain ⟨A1, c1, rfl, hl1, hm1, hnw, hsl⟩ := hown.shape
      clear hyd hy1 hy2
      subst hys
      have hm2 : c1 ≤ 9223372036854775807 := by unfold maxLen at hm1; exact hm1
      go_wp2_with fail
      refine (clip_any A1 ys.length c1 hl1 hm2 _).mono ?_
      rintro e w2 ⟨rfl, rfl⟩
      go_wp2
      go_ret
      exact ⟨A1, ys.length, rfl, Nat.le_refl _, Nat.le_trans hl1 hm1, hsl, hb.trans (hb1.mono hb.size), fun ad had => ⟨(by obtain ⟨g, rfl, hg, _⟩ := hnw ad had; exact hg), own_in hown ad had⟩⟩
def GivesN (n : Nat) (xs : List Int) (w : World) (e : Ending) (w' : World) : Prop := ∃ A c, xs.length = n ∧ e = .returned (.slice A n c) ∧ n ≤ c ∧ c ≤ maxLen ∧ SL w' A xs ∧ Below w.heap.size w w'
theorem Gives.n {xs : List Int} {w w' : World} {e : Ending} (h : Gives xs w e w') {n : Nat} (hn : xs.length = n) : GivesN n xs w e w' := by
  obtain ⟨A, c, h1, h2, h3, h4, h5⟩ := h
  subst hn
  exact ⟨A, c, rfl, h1, h2, h3, h4, h5⟩
theorem SL.co {p : Nat} [NeZero p] {w : World} {A : Option Addr} {l : List (Fin p)} (h : SL w A (fvs l)) {k : Nat} (hk : k < l.length) : ∃ ad, A = some ad ∧ w.cell? (ad.add k) = some (vi (fv (co l k))) := by
  obtain ⟨ad, h1, _, h2⟩ := h.at_ (k := k) (by simpa using hk)
  exact ⟨ad, h1, by rw [h2, co_of_lt hk, List.getElem_map]⟩
end Go.Proofs.YtpkhcncempoohaaGreatDoor

namespace Go.Proofs.YtpkhcncempoohaaGreatDoor
open Go.RowKit Zp
def mayB (n : Nat) (k : Int) : Bool := decide (1 ≤ k ∧ k ≤ n)
theorem mayB_true {n : Nat} {k : Int} (h : 1 ≤ k ∧ k ≤ n) : mayB n k = true := decide_eq_true h
theorem mayB_false {n : Nat} {k : Int} (h : ¬ (1 ≤ k ∧ k ≤ n)) : mayB n k = false := decide_eq_false h
theorem may_any (D n : Nat) (k : Int) (w : World) (hc : w.cell? ⟨D, 1, none⟩ = some (vi n)) :
    Calls Tryz.prog 35 #[.pointer (some ⟨D, 0, none⟩), vi k] w fun e w' => e = .returned (.bool (mayB n k)) ∧ w = w' := by
  by_cases h1 : 1 ≤ k
  · by_cases h2 : k ≤ n
    · have h := mayB_true ⟨h1, h2⟩
      have H := Lib.hid h
      clear h
      go_enter Tryz.func35, Tryz.ntmps35
      go_wp2_with (go_at_call 64; refine (size_any D n _ hc).mono ?_; rintro e w' ⟨rfl, rfl⟩)
      go_ret
      exact ⟨ret_bool H.out.symm, rfl⟩
    · have t2 : decide (k ≤ (n : Int)) = false := by simpa using h2
      have h := mayB_false (n := n) (k := k) (fun h => h2 h.2)
      have H := Lib.hid h
      clear h
      go_enter Tryz.func35, Tryz.ntmps35
      go_wp2_with (go_at_call 64; refine (size_any D n _ hc).mono ?_; rintro e w' ⟨rfl, rfl⟩)
      go_ret
      exact ⟨ret_bool H.out.symm, rfl⟩
  · have t1 : decide (1 ≤ k) = false := by simpa using h1
    have h := mayB_false (n := n) (k := k) (fun h => h1 h.1)
    have H := Lib.hid h
    clear h
    go_enter Tryz.func35, Tryz.ntmps35
    go_wp2
    go_ret
    exact ⟨ret_bool H.out.symm, rfl⟩
end Go.Proofs.YtpkhcncempoohaaGreatDoor

namespace Go.Proofs.YtpkhcncempoohaaGreatDoor
open Go.RowKit Zp
theorem mul_one_ {p : Nat} [NeZero p] (a : Fin p) : a * 1 = a := by grind
theorem mul_assoc_ {p : Nat} [NeZero p] (a b c : Fin p) : a * b * c = a * (b * c) := by grind
def powL {p : Nat} [NeZero p] (x y : Fin p) (n : Nat) : List (Fin p) := tab n (fun i => x * pw y i)
theorem powL_length {p : Nat} [NeZero p] (x y : Fin p) (n : Nat) : (powL x y n).length = n := tab_length _ _
def PowRel {p : Nat} [NeZero p] (x y : Fin p) (n : Nat) (w : World) (v c : Value) (wr : World) : Prop := ∃ k g : Nat, k ≤ n ∧ c = vi (fv (x * pw y k)) ∧ v = .slice (some ⟨g, 0, none⟩) k n ∧ Own wr w.heap.size v (fvs (powL x y k)) ∧ Below w.heap.size w wr
def lenOf : Value → Nat
  | .slice _ n _ => n
  | _ => 0
set_option maxRecDepth 100000 in
set_option maxHeartbeats 1000000 in
theorem powers_any (p S D b : Nat) [NeZero p] (n : Nat) (s : Fin p) (x y : Fin p) (w : World) (hD : Dom w S D b p n s) :
    Calls Tryz.prog 68 #[.pointer (some ⟨D, 0, none⟩), vi (fv x), vi (fv y)] w fun e w' => Made (fvs (powL x y n)) w e w' := by
  have hp2 := hD.fld.max
  have hn1 := hD.size.le
  have hd1 := hD.c1
  have hDle := hD.le
  have hmk := make_ints0 n (by omega)
  go_enter Tryz.func68, Tryz.ntmps68
  go_wp2
  go_loopw [7, 8] (fun v c wr => PowRel x y n w v c wr) (fun v _ _ => n - lenOf v)
  case atStart => exact ⟨0, w.heap.size, Nat.zero_le _, by rw [pw_zero, mul_one_], rfl, own_made0 w _ n (Nat.le_refl _) (by omega), (Below.refl _ _).alloc (Nat.le_refl _) _⟩
  case round =>
    obtain ⟨k, g, hk, rfl, rfl, hown, hb⟩ := hrel
    have hDr := hD.below hb hDle
    have hd1 := hDr.c1
    have hd0 := hDr.c0
    have hcb := hDr.fld.c0
    by_cases hkn : k < n
    · have hlk : (fvs (powL x y k)).length = k := by simp [powL_length]
      have hts : powL x y (k + 1) = powL x y k ++ [x * pw y k] := tab_succ _ _
      have hX1 : x * pw y k * y = x * pw y (k + 1) := by rw [pw_succ]; exact mul_assoc_ _ _ _
      obtain ⟨X, hX⟩ : ∃ X, X = x * pw y k := ⟨_, rfl⟩
      rw [← hX] at hts hX1 ⊢
      obtain ⟨X2, hX2⟩ : ∃ X2, X2 = x * pw y (k + 1) := ⟨_, rfl⟩
      rw [← hX2] at hX1
      have hmul := fun W hc => mul_any p hp2 b (fv X) (fv y) (i64_fv _ hp2) (i64_fv _ hp2) W hc
      rw [el_fv, el_fv, hX1] at hmul
      have HMUL := Lib.hid hmul
      have HTS := Lib.hid hts
      have HLK := Lib.hid hlk
      have HX2 := Lib.hid hX2
      clear hmul hts hlk hX hX1 hX2
      have hgl := (hown.lt g rfl).1
      have hDne : some D ≠ some g := by intro e; injection e with e; have := hD.lt; omega
      have hbne : some b ≠ some g := by intro e; injection e with e; have := hD.fld.lt; omega
      go_wp2_with (at_builtin; refine wpList_app1_fits wr (fv X) rfl _ _ rfl w.heap.size g k n _ rfl rfl hown HLK.out.symm hkn ?_; intro w1 hown1 hg; have hd0' := hg.cell hd0 hDne; have hcb' := hg.cell hcb hbne)
      refine (HMUL.out _ hcb').mono ?_
      rintro e w' ⟨rfl, k5, rfl⟩
      go_wp2
      go_roundw
      case rel => exact ⟨k + 1, g, by omega, by rw [HX2.out], rfl, by rw [HTS.out, fvs, List.map_append]; exact hown1, below_drewN (hb.grown hg hb.size (fun j hj => by injection hj with hj; subst hj; exact hgl)) k5⟩
      case measure => simp [lenOf]; omega
    · obtain rfl : k = n := by omega
      go_wp2
      go_ret
      exact ⟨_, rfl, hown, hb⟩
theorem coefs_bad (D n : Nat) (A : Option Addr) (m cap : Nat) (h : m ≠ n) (w : World) (hc : w.cell? ⟨D, 1, none⟩ = some (vi n)) :
    Calls Tryz.prog 36 #[.pointer (some ⟨D, 0, none⟩), .slice A m cap] w fun e w' => e = .returned (.tuple #[.slice none 0 0, .iface 64 (.int .i64 2)]) ∧ w = w' := by
  have t1 : ((m : Int) != (n : Int)) = true := by rw [bne_iff_ne]; omega
  clear h
  go_enter Tryz.func36, Tryz.ntmps36
  go_wp2
  go_ret2
  exact ⟨rfl, rfl⟩
def MadeC (xs : List Int) (w : World) (e : Ending) (w' : World) : Prop := ∃ v, e = .returned (.tuple #[v, .nilIface]) ∧ Own w' w.heap.size v xs ∧ Below w.heap.size w w'
def Cut3 (p n : Nat) [NeZero p] (r : Fin p) (l : List (Fin p)) (w : World) (v : Value) (wx : World) : Prop := ∃ ys, Own wx w.heap.size v ys ∧ (∀ y ∈ ys, I64 y) ∧ els p ys = dft r n l ∧ Below w.heap.size w wx
def Cut4 (p n : Nat) [NeZero p] (x y : Fin p) (w2 : World) (v ln c : Value) (wx : World) : Prop := ∃ g3 cc, v = .slice (some ⟨g3, 0, none⟩) n cc ∧ ln = vi n ∧ c = .int .i64 0 ∧ Own wx w2.heap.size (.slice (some ⟨g3, 0, none⟩) n cc) (fvs (powL x y n)) ∧ w2.heap.size ≤ g3 ∧ Below w2.heap.size w2 wx
def CoefRel (p n : Nat) [NeZero p] (r x y : Fin p) (l : List (Fin p)) (w : World) (g c : Nat) (i : Value) (wr : World) : Prop := ∃ (k : Nat) (ys : List Int), k ≤ n ∧ i = vi k ∧ ys.length = n ∧ Own wr w.heap.size (.slice (some ⟨g, 0, none⟩) n c) ys ∧ (∀ y ∈ ys, I64 y) ∧
  (∀ j, j < n → co (els p ys) j = if j < k then co (dft r n l) j * (x * pw y j) else co (dft r n l) j) ∧ Below w.heap.size w wr
set_option maxRecDepth 100000 in
set_option maxHeartbeats 1000000 in
theorem coefs_any (p S D b : Nat) [NeZero p] (n : Nat) (s : Fin p) (A : Option Addr) (cap : Nat) (xs : List Int) (hml : xs.length = n) (hxs : ∀ x ∈ xs, I64 x) (w : World) (hD : Dom w S D b p n s) (hs : SL w A xs) :
    Calls Tryz.prog 36 #[.pointer (some ⟨D, 0, none⟩), .slice A n cap] w fun e w' => MadeC (fvs (trimL (coefL s (rootI p n) n (els p xs)))) w e w' := by
  have hp1 := hD.fld.two
  have hp2 := hD.fld.max
  have hpr := hD.fld.prime
  have hn0 := hD.size.pos
  have hn1 := hD.size.le
  have hDle := hD.le
  have hd0 := hD.c0
  have hd1 := hD.c1
  have hd3 := hD.c3
  have hcb := hD.fld.c0
  have hDl : D < w.heap.size := Nat.lt_of_lt_of_le hD.lt hD.le
  have hbl : b < w.heap.size := Nat.lt_of_lt_of_le hD.fld.lt hD.le
  have t1 : ((n : Int) != (n : Int)) = false := by simp
  have hord := ord_inv hpr (rootI_ord hpr hn0 hD.size.2) hn0
  have hcond := root_cond hpr hD.size hord
  obtain ⟨R, hR⟩ : ∃ R, R = rootI p n := ⟨_, rfl⟩
  rw [← hR] at hd3 hcond ⊢
  have hclone := fun k => clone_any A n cap xs hml (by omega) (w.drewN k) (hs.drewN k)
  have HCLONE := Lib.hid hclone
  have hsp : SpreadSpec p S D b n s n := by
    obtain ⟨⟨kk, hkk, hnk⟩, _⟩ := hD.size
    have h := spread_any p S D b n s kk hkk
    rwa [← hnk] at h
  have HSP := Lib.hid hsp
  have HML := Lib.hid hml
  have HCOND := Lib.hid hcond
  have HR := Lib.hid hR
  clear hclone hord hcond hsp hml hR
  go_enter Tryz.func36, Tryz.ntmps36
  go_upto_region 3 with (fail)
  go_cut [6] (fun v wx => Cut3 p n (Zp.inv R) (els p xs) w v wx)
  case first =>
    go_region_held3 (fun w' => w'.cell? ⟨D, 0, none⟩ = some (.pointer (some ⟨b, 0, none⟩)) ∧ w'.cell? ⟨D, 3, none⟩ = some (vi (fv R)) ∧ w'.cell? ⟨b, 0, none⟩ = some (vi p)) (first | exact ⟨hd0, hd3, hcb⟩ | exact ⟨(hb1.cell (p := ⟨D, 0, none⟩) hDl).trans hd0, (hb1.cell (p := ⟨D, 3, none⟩) hDl).trans hd3, (hb1.cell (p := ⟨b, 0, none⟩) hbl).trans hcb⟩ | exact ⟨(hbel2.cell (p := ⟨D, 0, none⟩) hDl).trans hd0, (hbel2.cell (p := ⟨D, 3, none⟩) hDl).trans hd3, (hbel2.cell (p := ⟨b, 0, none⟩) hbl).trans hcb⟩) ((first | (go_at_call 66; refine (HCLONE.out _).mono ?_; rintro e w1 ⟨v1, rfl, hown1, hb1⟩) | (go_at_call 67; refine (inv_any p hp1 hp2 b _ (i64_fv _ hp2) _ (by first | exact hcb | exact (hb1.cell (p := ⟨b, 0, none⟩) hbl).trans hcb)).mono ?_; rintro e w' ⟨rfl, rfl⟩) | (go_at_call 65; refine (HSP.out _ w.heap.size _ xs _ HML.out hxs (i64_fv _ hp2) (by rw [el_fv, el_fv]; exact HCOND.out) ((hD.drewN _).below hb1 hDle) hown1 hb1.size).mono ?_; rintro e w2 ⟨v2, ys, rfl, hown2, hys, hysd, _, _, hb2⟩; have hbel2 : Below w.heap.size w w2 := ((below_drewN (Below.refl _ w) _).trans hb1).trans (hb2.mono hb1.size))))
    all_goals go_wp2_with fail
    all_goals go_meet
    all_goals (rw [el_fv, el_fv] at hysd; exact ⟨ys, hown2, hys, hysd, hbel2⟩)
  case rest =>
    obtain ⟨ys, hown2, hys, hysd, hb2⟩ := hcut
    have hysl : ys.length = n := by have := congrArg List.length hysd; rw [dft_length] at this; simpa using this
    obtain ⟨g, c, hv, hg1, hg2⟩ := hown2.block (by omega)
    rw [hysl] at hv
    subst hv
    obtain ⟨w2, hw2⟩ : ∃ W, W = wc := ⟨_, rfl⟩
    subst hw2
    have hD2 := hD.below hb2 hDle
    have hd0 := hD2.c0
    have hd1 := hD2.c1
    have hd2 := hD2.c2
    have hcb2 := hD2.fld.c0
    have hnI : I64 (n : Int) := ⟨by omega, by omega⟩
    have hDl2 : D < w2.heap.size := Nat.lt_of_lt_of_le hDl hb2.size
    have hbl2 : b < w2.heap.size := Nat.lt_of_lt_of_le hbl hb2.size
    have HYS := Lib.hid hysd
    have HYL := Lib.hid hysl
    clear hysd hysl hd3 hcb
    have hpw := fun k => powers_any p S D b n s (Zp.inv (el p (n : Int))) (Zp.inv (el p (fv s))) (w2.drewN k) (hD2.drewN k)
    have HPW := Lib.hid hpw
    clear hpw
    go_upto_region 4 with (fail)
    go_cut [49, 50, 51] (fun v ln c wx => Cut4 p n (Zp.inv (el p (n : Int))) (Zp.inv (el p (fv s))) w2 v ln c wx)
    case first =>
      go_region_held3 (fun w' => w'.cell? ⟨D, 0, none⟩ = some (.pointer (some ⟨b, 0, none⟩)) ∧ w'.cell? ⟨D, 1, none⟩ = some (vi n) ∧ w'.cell? ⟨D, 2, none⟩ = some (vi (fv s))) (first | exact ⟨hd0, hd1, hd2⟩ | exact ⟨(hb3.cell (p := ⟨D, 0, none⟩) hDl2).trans hd0, (hb3.cell (p := ⟨D, 1, none⟩) hDl2).trans hd1, (hb3.cell (p := ⟨D, 2, none⟩) hDl2).trans hd2⟩) ((first | (go_at_call 67; refine (inv_any p hp1 hp2 b _ (by first | exact hnI | exact i64_fv _ hp2) _ (by exact hcb2)).mono ?_; rintro e w' ⟨rfl, rfl⟩) | (go_at_call 68; refine (HPW.out _).mono ?_; rintro e w3 ⟨v3, rfl, hown3, hb3⟩; obtain ⟨g3, c3, hv3, hg3, _⟩ := hown3.block (by simp [powL_length]; omega); rw [List.length_map, powL_length] at hv3; subst hv3)))
      all_goals go_wp2_with fail
      all_goals go_meet
      all_goals exact ⟨g3, c3, rfl, rfl, rfl, hown3, hg3, (below_drewN (Below.refl _ w2) _).trans hb3⟩
    case rest =>
      obtain ⟨g3, c3, rfl, rfl, rfl, hown3, hg3, hb3⟩ := hcut
      have hlp : (fvs (powL (Zp.inv (el p (n : Int))) (Zp.inv (el p (fv s))) n)).length = n := by rw [List.length_map, powL_length]
      have HLP := Lib.hid hlp
      clear hlp
      have hoa := hown2.below hb3
      have hbw := hb2.trans (hb3.mono hb2.size)
      go_wp2_with fail
      go_loopw [51] (fun i wr => CoefRel p n (Zp.inv R) (Zp.inv (el p (n : Int))) (Zp.inv (el p (fv s))) (els p xs) w g c i wr ∧ Own wr w2.heap.size (.slice (some ⟨g3, 0, none⟩) n c3) (fvs (powL (Zp.inv (el p (n : Int))) (Zp.inv (el p (fv s))) n))) (fun i _ => n - (intOf i).toNat)
      case atStart => exact ⟨⟨0, ys, Nat.zero_le _, rfl, HYL.out, hoa, hys, fun j _ => by rw [HYS.out, if_neg (by omega)], hbw⟩, hown3⟩
      case round =>
        obtain ⟨⟨k, zs, hk, rfl, hzl, hoz, hzs, hzc, hbz⟩, hop⟩ := hrel
        have HZL := Lib.hid hzl
        have HZC := Lib.hid hzc
        clear hzl hzc
        have hDr := hD.below hbz hDle
        have hd0 := hDr.c0
        have hcb := hDr.fld.c0
        by_cases hkn : k < n
        · have hkz : k < zs.length := by rw [HZL.out]; exact hkn
          have hca := hoz.at_ HZL.out.symm k hkz
          have hfa := hoz.frozen_ HZL.out.symm k
          have hcp := hop.at_ HLP.out.symm k (by rw [HLP.out]; exact hkn)
          have iz := hzs _ (List.getElem_mem hkz)
          have e1 : (fvs (powL (Zp.inv (el p (n : Int))) (Zp.inv (el p (fv s))) n))[k]'(by rw [HLP.out]; exact hkn) = fv (Zp.inv (el p (n : Int)) * pw (Zp.inv (el p (fv s))) k) := by
            rw [List.getElem_map]; exact congrArg fv (tab_get _ _ _ _)
          rw [e1] at hcp
          have hzk : co (els p zs) k = el p zs[k] := by rw [co_of_lt (by simpa using hkz)]; simp
          obtain ⟨z, hz⟩ : ∃ z, z = zs[k] := ⟨_, rfl⟩
          rw [← hz] at hca iz hzk
          obtain ⟨X, hX⟩ : ∃ X, X = Zp.inv (el p (n : Int)) * pw (Zp.inv (el p (fv s))) k := ⟨_, rfl⟩
          rw [← hX] at hcp
          obtain ⟨Z, hZ⟩ : ∃ Z, Z = el p z * X := ⟨_, rfl⟩
          have hmul := fun W hc => mul_any p hp2 b z (fv X) iz (i64_fv _ hp2) W hc
          rw [el_fv, ← hZ] at hmul
          have hnext : ∀ j, j < n → co (els p (zs.set k (fv Z))) j = if j < k + 1 then co (dft (Zp.inv R) n (els p xs)) j * (Zp.inv (el p (n : Int)) * pw (Zp.inv (el p (fv s))) j) else co (dft (Zp.inv R) n (els p xs)) j := by
            intro j hj
            rw [els, List.map_set, el_fv, co_set _ _ _ (by simpa using hkz)]
            have h1 := HZC.out j hj
            by_cases he : j = k
            · subst he
              rw [if_neg (by omega)] at h1
              rw [if_pos rfl, if_pos (by omega), hZ, ← hzk, h1, hX]
            · rw [if_neg he, h1]
              by_cases hlt : j < k
              · rw [if_pos hlt, if_pos (by omega)]
              · rw [if_neg hlt, if_neg (by omega)]
          have hall : ∀ y ∈ zs.set k (fv Z), I64 y := by
            intro y hy
            rcases List.mem_or_eq_of_mem_set hy with h | h
            · exact hzs y h
            · rw [h]; exact i64_fv _ hp2
          have HMUL := Lib.hid hmul
          have HNEXT := Lib.hid hnext
          have HALL := Lib.hid hall
          have i1 : (0 : Int) ≤ k := by omega
          have i2 : (k : Int) < n := by omega
          have hmx : Tryz.prog.follows .mixedOrders = true := by kernel_rfl
          clear hmul hnext hall hZ hX hz hzk e1
          go_wp2
          refine wp_region_quiet_tail 13 hmx (by kernel_rfl) ?_
          simp only [List.take_succ_cons, List.take_zero, List.drop_succ_cons, List.drop_zero]
          repeat (quiet_step ((go_at_call 69; exact Calls.quiet_of (HMUL.out _ (by exact hcb)))))
          refine wpQuiet_nil ?_
          intro _ hw'
          obtain ⟨nq1, hw''⟩ := hw'
          subst hw''
          go_wp2
          go_roundw
          case rel =>
            refine ⟨⟨k + 1, zs.set k (fv Z), by omega, by go_num, by rw [List.length_set]; exact HZL.out, (hoz.drewN nq1).store HZL.out.symm k _, HALL.out, HNEXT.out, (below_drewN hbz nq1).setCell hg1 _⟩, (hop.drewN nq1).far (by simp only [Value.ownBlock, ne_eq, Option.some.injEq]; omega) _⟩
          case measure => simp [intOf]; omega
        · obtain rfl : k = n := by omega
          have hzz : els p zs = coefL s R k (els p xs) := by
            refine ext_co (by rw [coefL_length, List.length_map, HZL.out]) fun j hj => ?_
            rw [List.length_map, HZL.out] at hj
            rw [HZC.out j hj, if_pos hj, coefL, co_tab, if_pos hj, dft, co_tab, if_pos hj, el_fv]
          have hsz : SL wr (some ⟨g, 0, none⟩) zs := by
            obtain ⟨A1, c1, h1, h2⟩ := hoz.len
            injection h1 with h1 _ _
            rw [h1]; exact h2
          have hkc : k ≤ c := by
            obtain ⟨Ao, no, co_, hvo, _, hco_, _, _⟩ := hoz.shapeN
            injection hvo with _ hv1 hv2
            omega
          have ht := trim_any p hp2 b (some ⟨g, 0, none⟩) c zs hzs (by rw [HZL.out]; omega) (by rw [HZL.out]; omega) wr hcb hsz
          rw [HZL.out, hzz] at ht
          have HT := Lib.hid ht
          clear ht hzz
          go_wp2_with fail
          refine (HT.out).mono ?_
          rintro e w4 ⟨v4, rfl, hown4, hb4⟩
          go_wp2
          go_ret2
          exact ⟨v4, rfl, hown4.more hbz.size, hbz.trans (hb4.mono hbz.size)⟩
noncomputable def cwB (p n : Nat) [NeZero p] (s : Fin p) (k : Int) (xs : List Int) : Bool := decide ((1 ≤ k ∧ k ≤ n) ∧ xs.length = n ∧ ((trimL (coefL s (rootI p n) n (els p xs))).length : Int) ≤ k)
set_option maxHeartbeats 1000000 in
theorem is_any (p S D b : Nat) [NeZero p] (n : Nat) (s : Fin p) (k : Int) (A : Option Addr) (m cap : Nat) (xs : List Int) (hml : xs.length = m) (hxs : ∀ x ∈ xs, I64 x) (w : World) (hD : Dom w S D b p n s) (hs : SL w A xs) :
    Calls Tryz.prog 12 #[.pointer (some ⟨D, 0, none⟩), vi k, .slice A m cap] w fun e w' => SaysW (.bool (cwB p n s k xs)) w e w' := by
  have hmay := may_any D n k w hD.c1
  by_cases h1 : 1 ≤ k ∧ k ≤ n
  · rw [mayB_true h1] at hmay
    have HMAY := Lib.hid hmay
    by_cases h2 : m = n
    · have hc := coefs_any p S D b n s A cap xs (by rw [hml, h2]) hxs w hD hs
      rw [← h2] at hc
      obtain ⟨B, hB⟩ : ∃ B, B = cwB p n s k xs := ⟨_, rfl⟩
      have hBe : B = decide (((trimL (coefL s (rootI p n) n (els p xs))).length : Int) ≤ k) := by
        rw [hB]; unfold cwB; rw [decide_eq_decide]
        exact ⟨fun h => h.2.2, fun h => ⟨h1, by rw [hml, h2], h⟩⟩
      rw [← hB]
      obtain ⟨l, hl⟩ : ∃ l, l = trimL (coefL s (rootI p m) m (els p xs)) := ⟨_, rfl⟩
      rw [← hl] at hc
      rw [← h2, ← hl] at hBe
      have HC := Lib.hid hc
      have HBE := Lib.hid hBe
      clear hc hmay hB hBe hl h1 h2 hml
      go_enter Tryz.func12, Tryz.ntmps12
      go_wp2_with fail
      refine (HMAY.out).mono ?_
      rintro e w' ⟨rfl, rfl⟩
      go_wp2_with fail
      refine (HC.out).mono ?_
      rintro e w1 ⟨v, rfl, hown, hb⟩
      obtain ⟨A1, n1, c1, rfl, hl1, _, _, _⟩ := hown.shapeN
      rw [List.length_map] at hl1
      have hfin : B = decide ((n1 : Int) ≤ k) := by rw [HBE.out, hl1]
      have HFIN := Lib.hid hfin
      clear hfin hl1
      by_cases h3 : (n1 : Int) ≤ k
      · have hf : B = true := by rw [HFIN.out]; exact decide_eq_true h3
        have HF := Lib.hid hf
        clear hf
        go_wp2
        go_ret
        exact ⟨ret_bool HF.out.symm, hb⟩
      · have hf : B = false := by rw [HFIN.out]; exact decide_eq_false h3
        have t3 : decide ((n1 : Int) ≤ k) = false := decide_eq_false h3
        have HF := Lib.hid hf
        clear hf
        go_wp2
        go_ret
        exact ⟨ret_bool HF.out.symm, hb⟩
    · have hc := coefs_bad D n A m cap h2 w hD.c1
      have hB : cwB p n s k xs = false := decide_eq_false (fun h => h2 (by rw [← hml]; exact h.2.1))
      have HC := Lib.hid hc
      have HB := Lib.hid hB
      clear hc hmay hB h1 h2 hml
      go_enter Tryz.func12, Tryz.ntmps12
      go_wp2_with fail
      refine (HMAY.out).mono ?_
      rintro e w' ⟨rfl, rfl⟩
      go_wp2_with fail
      refine (HC.out).mono ?_
      rintro e w' ⟨rfl, rfl⟩
      go_wp2
      go_ret
      exact ⟨ret_bool HB.out.symm, Below.refl _ _⟩
  · rw [mayB_false h1] at hmay
    have hB : cwB p n s k xs = false := decide_eq_false (fun h => h1 h.1)
    have HMAY := Lib.hid hmay
    have HB := Lib.hid hB
    clear hmay hB h1 hml
    go_enter Tryz.func12, Tryz.ntmps12
    go_wp2_with fail
    refine (HMAY.out).mono ?_
    rintro e w' ⟨rfl, rfl⟩
    go_wp2
    go_ret
    exact ⟨ret_bool HB.out.symm, Below.refl _ _⟩
end Go.Proofs.YtpkhcncempoohaaGreatDoor

namespace Go.Proofs.YtpkhcncempoohaaGreatDoor
open Go.RowKit Zp
noncomputable def colW (p n : Nat) [NeZero p] (l : List (Fin p)) : List (Fin p) := valL (genE p) (rootI p ((8 * n : Nat) : Int)) (8 * n) (trimL (coefL 1 (eH p n) n l))
theorem colW_length (p n : Nat) [NeZero p] (l : List (Fin p)) : (colW p n l).length = 8 * n := by simp [colW, valL_length]
theorem co_colW (p n : Nat) [NeZero p] (l : List (Fin p)) {i : Nat} (hi : i < 8 * n) : co (colW p n l) i = colP n l (tD p n i) := by
  unfold colW valL
  rw [co_tab, if_pos hi]
  rfl
set_option maxHeartbeats 1000000 in
theorem column_any (P b p n : Nat) [NeZero p] (size : Int) (AI : Option Addr) (L cI E D : Nat) (A : Option Addr) (cap : Nat) (xs : List Int) (hml : xs.length = n) (hxs : ∀ x ∈ xs, I64 x) (w : World) (hP : PL w P b p n size AI L cI E D) (hs : SL w A xs) :
    Calls Tryz.prog 34 #[.pointer (some ⟨P, 0, none⟩), .slice A n cap] w (GivesW (fvs (colW p n (els p xs))) w) := by
  obtain ⟨S1, h1⟩ := hP.de
  obtain ⟨S2, h2⟩ := hP.dd
  have hp2 := h1.fld.max
  have HC := Lib.hid (coefs_any p S1 E b n 1 A cap xs hml hxs w h1 hs)
  have c4 := (hP.blk.cell 4).trans (show _ = some (.pointer (some ⟨E, 0, none⟩)) from rfl)
  have HP := Lib.hid (And.intro hP h2)
  obtain ⟨ys, hys⟩ : ∃ ys, ys = trimL (coefL 1 (rootI p n) n (els p xs)) := ⟨_, rfl⟩
  have hyl : ys.length ≤ n := by
    rw [hys]
    have e1 := coefL_length (1 : Fin p) (rootI p n) n (els p xs)
    have e2 := trimL_length_le (coefL (1 : Fin p) (rootI p n) n (els p xs))
    omega
  have hn := h1.size.le
  have HY := Lib.hid hys
  rw [← hys] at HC
  clear hys h1 h2 hs hP
  go_enter Tryz.func34, Tryz.ntmps34
  go_wp2_with fail
  refine HC.out.mono ?_
  rintro _ wa ⟨v, rfl, hO, hb⟩
  obtain ⟨A2, c2, rfl, _, _, _, hsl⟩ := hO.shape
  have hPa := HP.out.1.below hb
  have c5 := (hPa.blk.cell 5).trans (show _ = some (.pointer (some ⟨D, 0, none⟩)) from rfl)
  have HV := Lib.hid (values_new p S2 D b (8 * n) (genE p) A2 c2 (fvs ys) (i64_fvs _ hp2) (by simp; omega) wa (HP.out.2.below hb HP.out.2.le) hsl)
  have hyf : (fvs ys).length = ys.length := by simp
  rw [hyf] at HV
  have HB := Lib.hid hb
  clear hyf hPa hsl hO hb c4
  go_wp2_with fail
  refine HV.out.mono ?_
  rintro _ wb ⟨A3, c3, rfl, h1, h2, h3, h4, h5⟩
  have HR := Lib.hid (And.intro h1 (And.intro h2 (And.intro h3 (And.intro h4 h5))))
  have hl : (fvs (valL (genE p) (rootI p ((8 * n : Nat) : Int)) (8 * n) (els p (fvs ys)))) = fvs (colW p n (els p xs)) := by rw [els_fvs, HY.out]; rfl
  rw [hl] at HR ⊢
  clear h1 h2 h3 h4 h5 hl c5
  go_wp2
  go_ret
  exact ⟨A3, c3, by simp, HR.out.1, HR.out.2.1, HR.out.2.2.1, HB.out.trans (HR.out.2.2.2.1.mono HB.out.size), fun ad had => ⟨Nat.le_trans HB.out.size (HR.out.2.2.2.2 ad had).1, (HR.out.2.2.2.2 ad had).2⟩⟩
end Go.Proofs.YtpkhcncempoohaaGreatDoor

namespace Go.Proofs.YtpkhcncempoohaaGreatDoor
open Go.RowKit Zp
def RowW (w : World) (u : Value) (l : List Int) : Prop := ∃ A n c, u = .slice A n c ∧ l.length = n ∧ n ≤ c ∧ c ≤ maxLen ∧ SL w A l ∧ ∀ ad, A = some ad → ∃ cs, Blk w ad.block 3 cs
theorem RowW.keep {w w' : World} {u : Value} {l : List Int} (h : RowW w u l) (hs : w.heap.size ≤ w'.heap.size) (hk : ∀ x cs, Blk w x 3 cs → w'.heap[x]? = w.heap[x]?) : RowW w' u l := by
  obtain ⟨A, n, c, rfl, h2, h3, h4, h5, h6⟩ := h
  refine ⟨A, n, c, rfl, h2, h3, h4, ?_, fun ad had => ?_⟩
  · refine ⟨h5.1, fun hn => ?_⟩
    obtain ⟨ad, e, hb, hc⟩ := h5.2 hn
    obtain ⟨cs, hbk⟩ := h6 ad e
    exact ⟨ad, e, Nat.lt_of_lt_of_le hb hs, fun j u hu => (World.cell?_of_block (by rw [block_of_add]; exact hk _ _ hbk)).trans (hc j u hu)⟩
  · obtain ⟨cs, hb⟩ := h6 ad had
    exact ⟨cs, (hk _ _ hb).trans hb⟩
def RowsW (w : World) (us : List Value) (ls : List (List Int)) : Prop := us.length = ls.length ∧ ∀ k (h : k < us.length) (h' : k < ls.length), RowW w us[k] ls[k]
theorem RowsW.nil (w : World) : RowsW w [] [] := ⟨rfl, fun k h => absurd h (by simp)⟩
theorem RowsW.keep {w w' : World} {us : List Value} {ls : List (List Int)} (h : RowsW w us ls) (hs : w.heap.size ≤ w'.heap.size) (hk : ∀ x cs, Blk w x 3 cs → w'.heap[x]? = w.heap[x]?) : RowsW w' us ls := ⟨h.1, fun k h1 h2 => (h.2 k h1 h2).keep hs hk⟩
theorem RowsW.below {w w' : World} {us : List Value} {ls : List (List Int)} (h : RowsW w us ls) (hb : Below w.heap.size w w') : RowsW w' us ls := h.keep hb.size fun x cs hx => hb.block x hx.lt
theorem RowsW.snoc {w : World} {us : List Value} {ls : List (List Int)} {u : Value} {l : List Int} (h : RowsW w us ls) (hu : RowW w u l) : RowsW w (us ++ [u]) (ls ++ [l]) := by
  have hl := h.1
  refine ⟨by simp [hl], fun k h1 h2 => ?_⟩
  by_cases hk : k < us.length
  · rw [List.getElem_append_left hk, List.getElem_append_left (by omega)]
    exact h.2 k hk (by omega)
  · have e : k = us.length := by simp at h1; omega
    subst e
    rw [List.getElem_append_right (Nat.le_refl _), List.getElem_append_right (by omega)]
    simpa [hl] using hu
theorem GrewR.rowsW {w w' : World} {base : Nat} {v v' : Value} {us vs ws : List Value} {ls : List (List Int)} (h : GrewR w w' base v v' us) (ho : OwnR w base v vs) (hr : RowsW w ws ls) : RowsW w' ws ls :=
  hr.keep h.grown.size fun x cs hx => h.grown.block x hx.lt fun e => by
    rcases ho.2 with ⟨e', _⟩ | ⟨g', cap', cur', e', _, hg', _⟩
    · rw [e'] at e; cases e
    · rw [e'] at e
      injection e with e
      subst e
      have := hx.symm.trans hg'
      injection this with this
      injection this with _ ht
      exact absurd ht (by decide)
theorem ownR_below {w w' : World} {base : Nat} {v : Value} {us : List Value} (h : OwnR w base v us) (hb : Below w.heap.size w w') : OwnR w' base v us :=
  World.ownsRow.kept h (⟨hb.os, hb.tape, hb.output, hb.size, fun k hk _ => hb.block k hk⟩ : w.grownBy w' none) (by
    rcases hq : v.ownBlock with _ | q
    · exact .inl rfl
    · exact .inr (by simp))
def colI (rows : List (List Int)) (j : Nat) : List Int := rows.map fun r => r.getD j 0
theorem colI_len (rows : List (List Int)) (j : Nat) : (colI rows j).length = rows.length := List.length_map _
theorem colI_i64 {rows : List (List Int)} (h : ∀ r ∈ rows, ∀ x ∈ r, I64 x) (j : Nat) : ∀ x ∈ colI rows j, I64 x := fun x hx => by
  obtain ⟨r, hr, rfl⟩ := List.mem_map.1 hx
  by_cases hj : j < r.length
  · rw [List.getD_eq_getElem?_getD, List.getElem?_eq_getElem hj]; exact h r hr _ (List.getElem_mem hj)
  · rw [List.getD_eq_getElem?_getD, List.getElem?_eq_none (by omega)]; show I64 0; constructor <;> omega
noncomputable def colsW (p n : Nat) [NeZero p] (rows : List (List Int)) (m : Nat) : List (List Int) := (List.range m).map fun j => fvs (colW p n (els p (colI rows j)))
theorem colsW_succ (p n : Nat) [NeZero p] (rows : List (List Int)) (m : Nat) : colsW p n rows (m + 1) = colsW p n rows m ++ [fvs (colW p n (els p (colI rows m)))] := by unfold colsW; rw [List.range_succ, List.map_append]; rfl
set_option maxHeartbeats 4000000 in
theorem columns_any (P b p n : Nat) [NeZero p] (size : Int) (AI : Option Addr) (L cI E D : Nat) (AT : Option Addr) (cT : Nat) (rows : List (List Int)) (hn : rows.length = n) (m : Nat) (hm : ∀ l ∈ rows, l.length = m) (hn1 : 1 ≤ n) (hn5 : n ≤ 512) (hm5 : m ≤ 1000) (w : World) (hP : PL w P b p n size AI L cI E D) (hT : TB w AT rows) :
    Calls Tryz.prog 33 #[.pointer (some ⟨P, 0, none⟩), .slice AT n cT] w fun e w' => ∃ v us, e = .returned v ∧ OwnR w' w.heap.size v us ∧ RowsW w' us (colsW p n rows m) ∧ Below w.heap.size w w' := by
  have HP := Lib.hid hP
  have HT := Lib.hid hT
  have HN := Lib.hid hn
  have HM := Lib.hid hm
  have hi64 := Lib.hid (fun j => colI_i64 (rows := rows) (fun r hr => by
    obtain ⟨k, hk, rfl⟩ := List.mem_iff_getElem.1 hr
    obtain ⟨_, _, _, _, _, _, _, _, _, _, h⟩ := hT k hk
    exact h) j)
  obtain ⟨ad, A0, n0, c0, rfl, ha0, hc0, hl0, hn0, hs0, hi0⟩ := hT 0 (by omega)
  have e0 : n0 = m := by rw [← hl0]; exact hm _ (List.getElem_mem _)
  subst e0
  rw [show ad.add 0 = ad by cases ad; simp [Addr.add]] at hc0
  have z1 : (0 : Int) < (n : Int) := by omega
  clear hP hT hn hm hl0 hs0 hi0 ha0 hn0
  go_enter Tryz.func33, Tryz.ntmps33
  go_wp2
  go_loopw [5, 14] (fun v i wr => ∃ (j : Nat) (us : List Value), j ≤ n0 ∧ i = vi j ∧ OwnR wr w.heap.size v us ∧ RowsW wr us (colsW p n rows j) ∧ Below w.heap.size w wr) (fun _ i _ => n0 - (intOf i).toNat)
  case atStart => exact ⟨0, [], Nat.zero_le _, rfl, World.ownsRow_nil _ _ _ _, RowsW.nil _, Below.refl _ _⟩
  case round =>
    rename World => w1
    obtain ⟨j, us, hj, rfl, hO, hR, hb⟩ := hrel
    by_cases hjn : j < n0
    · have HO := Lib.hid (And.intro hO (And.intro hR hb))
      clear hO hR hb
      have j1 : (0 : Int) ≤ (j : Int) := by omega
      have j2 : (j : Int) < (n0 : Int) := by omega
      go_wp2
      go_loopw [7, 19] (fun u i wr => ∃ k : Nat, k ≤ n ∧ i = vi k ∧ Own wr w1.heap.size u ((colI rows j).take k) ∧ Below w1.heap.size w1 wr) (fun _ i _ => n - (intOf i).toNat)
      case atStart => exact ⟨0, Nat.zero_le _, rfl, World.ownsRow_nil _ _ _ _, Below.refl _ _⟩
      case round =>
        rename World => w2
        obtain ⟨k, hk, rfl, hO2, hb2⟩ := hrel
        have hbw := HO.out.2.2.trans (hb2.mono HO.out.2.2.size)
        by_cases hkn : k < n
        · have hkr : k < rows.length := by rw [HN.out]; exact hkn
          obtain ⟨ad', A1, n1, c1, ead, ha1, hc1, hl1, hn1', hs1, hi1⟩ := HT.out k hkr
          injection ead with ead
          subst ead
          have hc2 := (hbw.cell ha1).trans hc1
          have hs2 := hs1.below hbw
          have e1 : n1 = n0 := by rw [← hl1]; exact HM.out _ (List.getElem_mem _)
          rw [e1] at hc2
          have hjl : j < rows[k].length := by rw [hl1, e1]; exact hjn
          obtain ⟨ad1, rfl, _, cx⟩ := hs2.at_ hjl
          obtain ⟨X, hX⟩ : ∃ X, X = rows[k][j] := ⟨_, rfl⟩
          rw [← hX] at cx
          have hTK : (colI rows j).take (k + 1) = (colI rows j).take k ++ [X] := by
            rw [List.take_add_one, List.getElem?_eq_getElem (by rw [colI_len]; exact hkr), Option.toList_some, hX]
            congr 2
            simp only [colI, List.getElem_map]
            rw [List.getD_eq_getElem?_getD, List.getElem?_eq_getElem hjl]
            rfl
          have HTK := Lib.hid hTK
          have HLK := Lib.hid (show ((colI rows j).take k).length < 17592186044416 by rw [List.length_take]; omega)
          have k1 : (0 : Int) ≤ (k : Int) := by omega
          have k2 : (k : Int) < (n : Int) := by omega
          clear hTK hX e1 hc1 hs1 hi1 hl1 hs2 hbw hjl
          go_wp2_with (at_builtin; refine wpList_app1 w2 X rfl _ _ rfl w1.heap.size _ _ rfl rfl hO2 HLK.out hb2.size ?_; intro v' w3 hg)
          exact ⟨⟨k + 1, by omega, by go_num, by rw [HTK.out]; exact hg.own, hg.below hb2 hO2 (Nat.le_refl _) hb2.size⟩, by simp [intOf]; omega⟩
        · obtain rfl : k = n := by omega
          have hlc : (colI rows j).length = k := by rw [colI_len]; exact HN.out
          rw [List.take_of_length_le (by omega)] at hO2
          obtain ⟨A7, c7, hv, hs7⟩ : ∃ A c, u7 = .slice A k c ∧ SL w2 A (colI rows j) := by
            obtain ⟨A, c, h1, _, _, _, h⟩ := hO2.shape
            exact ⟨A, c, by rw [h1, hlc], h⟩
          subst hv
          have HC : Hid (Calls Tryz.prog 34 #[.pointer (some ⟨P, 0, none⟩), .slice A7 k c7] w2 fun e w' => ∃ A N c, e = .returned (.slice A N c) ∧ RowW w' (.slice A N c) (fvs (colW p k (els p (colI rows j)))) ∧ Below w2.heap.size w2 w') := Lib.hid ((column_any P b p k size AI L cI E D A7 c7 (colI rows j) hlc (hi64.out j) w2 (HP.out.below hbw) hs7).mono fun e w' ⟨A, c, h1, h2, h3, h4, h5, h6⟩ => ⟨A, _, c, h1, ⟨A, _, c, rfl, rfl, h2, h3, h4, fun ad had => (h6 ad had).2⟩, h5⟩)
          have HB2 := Lib.hid hb2
          have HBW := Lib.hid hbw
          clear hO2 hs7 hlc hb2 hbw
          go_wp2_with fail
          refine HC.out.mono ?_
          rintro _ w3 ⟨A8, n8, c8, rfl, hrow, hb3⟩
          have hb13 := HB2.out.trans (hb3.mono HB2.out.size)
          have hB3 := HBW.out.trans (hb3.mono HBW.out.size)
          have hW3 : OwnR w3 w.heap.size u5 us := ownR_below HO.out.1 hb13
          have hR3 := (HO.out.2.1.below hb13).snoc hrow
          have hlus : us.length < 5864062014805 := by rw [HO.out.2.1.1]; simp [colsW]; omega
          have HLU := Lib.hid hlus
          clear hlus hrow hb3 hb13
          go_wp2_with (at_builtin; refine wpList_appR w3 A8 n8 c8 rfl _ _ rfl w.heap.size _ us rfl rfl hW3 HLU.out hB3.size ?_; intro v' w4 hg)
          exact ⟨⟨j + 1, _, by omega, by go_num, hg.own, by rw [colsW_succ]; exact hg.rowsW hW3 hR3, hg.below hB3 hW3 (Nat.le_refl _) hB3.size⟩, by simp [intOf]; omega⟩
    · obtain rfl : j = n0 := by omega
      go_wp2
      go_ret
      exact ⟨_, us, rfl, hO, hR, hb⟩
end Go.Proofs.YtpkhcncempoohaaGreatDoor

namespace Go.Proofs.YtpkhcncempoohaaGreatDoor
open Go.RowKit Zp
theorem ownsRow_keepQ {w w' : World} {base sz n : Nat} {e : TypeId} {v : Value} {xs : List Value} (h : w.ownsRow base e sz v n xs) (hk : ∀ g, v.ownBlock = some g → w'.heap[g]? = w.heap[g]?) : w'.ownsRow base e sz v n xs := by
  refine ⟨h.1, ?_⟩
  rcases h.2 with h0 | ⟨g, cap, cur, hv, hg, hh, rest⟩
  · exact .inl h0
  · exact .inr ⟨g, cap, cur, hv, hg, by rw [hk g (by rw [hv]; rfl)]; exact hh, rest⟩
theorem row_blkQ {W : World} {base : Nat} {e : TypeId} {sz n : Nat} {v : Value} {xs : List Value} (h : W.ownsRow base e sz v n xs) {g : Nat} (hg : v.ownBlock = some g) : ∃ cs, Blk W g e cs := by
  rcases h.2 with ⟨rfl, _⟩ | ⟨g', cap, cur, rfl, _, hh, _⟩
  · cases hg
  · injection hg with hg
    subst hg
    exact ⟨cur, hh⟩
theorem row_farQ {W W' : World} {base : Nat} {e : TypeId} {sz n : Nat} {v : Value} {xs : List Value} (h : W.ownsRow base e sz v n xs) (hg : W.grownBy W' v.ownBlock) {x : Nat} {t : TypeId} {cs : Array Value} (hx : Blk W x t cs) (ht : t ≠ e) : Blk W' x t cs := by
  rcases hv : v.ownBlock with _ | g
  · rw [hv] at hg
    exact Blk.grown hx hg (by intro e; cases e)
  · obtain ⟨cs', hcs⟩ := row_blkQ h hv
    rw [hv] at hg
    exact Blk.grown hx hg (fun e' => by injection e' with e'; exact Blk.ne_ hx hcs (fun e2 => ht e2) e')
theorem addQ' (g i : Nat) : (⟨g, 0, none⟩ : Addr).add i = ⟨g, i, none⟩ := addQ g i
structure ColsQ (w : World) (base g : Nat) (us : List Value) (ls : List (List Int)) : Prop where
  blk : Blk w g 26 us.toArray
  rows : RowsOwn w base us ls
  sep : ∀ i j (hi : i < us.length) (hj : j < us.length), i ≠ j → us[i].ownBlock = none ∨ us[i].ownBlock ≠ us[j].ownBlock
def nilQ (n : Nat) : Array Value := madeCells #[.slice none 0 0] n
theorem nilQ_eq (n : Nat) : nilQ n = (List.replicate n (Value.slice none 0 0)).toArray := by
  apply Array.ext
  · simp [nilQ, size_madeCells]
  · intro i h1 h2
    simp [nilQ, madeCells, Nat.mod_one]
theorem make_nilQ (c : Nat) (hc : c * 24 ≤ 281474976710656) (w : World) :
    (Instr.makeSlice 25 (vi c) (vi c)).run Tryz.prog w = .ok (.slice (some ⟨w.heap.size, 0, none⟩) c c) (w.alloc (.cells (nilQ c) 26)) := by
  obtain ⟨i0, hi, hz0, hz1, hz2⟩ := info_parts info_ints
  have h := run_make (P := Tryz.prog) w 25 26 i0 (.slice none 0 0) Tryz.underlying25 hi hz0 .i64 .i64 (c : Nat) c (by omega) (by omega) (by rw [hz2]; omega) (by omega)
  rw [hz1, Int.toNat_natCast, Nat.mul_one] at h
  exact h
theorem ColsQ.made (w : World) (base n : Nat) (hb : base ≤ w.heap.size) : ColsQ (w.alloc (.cells (nilQ n) 26)) base w.heap.size (List.replicate n (.slice none 0 0)) (List.replicate n []) := by
  refine ⟨?_, ⟨by simp, fun k h1 h2 => ?_⟩, fun i j hi hj _ => .inl ?_⟩
  · rw [← nilQ_eq]; exact Blk.new _ _ _
  · simp only [List.getElem_replicate]
    exact World.ownsRow_nil _ _ _ _
  · simp only [List.getElem_replicate]; rfl
theorem own_storeQ {w : World} {base g i : Nat} {v u : Value} {xs : List Int} {cs : Array Value} (h : Own w base v xs) (hB : Blk w g 26 cs) : Own (w.setCell ⟨g, i, none⟩ u) base v xs :=
  ownsRow_keepQ h fun k hk => by
    obtain ⟨ds, hd⟩ := row_blkQ h hk
    have hne : k ≠ g := hd.ne_ hB (by decide)
    exact Below.heap_setCell w ⟨g, i, none⟩ u k hne
theorem ColsQ.grow {w w' : World} {base g j : Nat} {us : List Value} {ls : List (List Int)} {v' : Value} {x : Int} (h : ColsQ w base g us ls) (hj : j < us.length) (hj' : j < ls.length)
    (hg : Grew w w' base us[j] v' (ls[j] ++ [x])) : ColsQ (w'.setCell ⟨g, j, none⟩ v') base g (us.set j v') (ls.set j (ls[j] ++ [x])) := by
  have hoj := h.rows.2 j hj hj'
  have hB' : Blk w' g 26 us.toArray := row_farQ hoj hg.grown h.blk (by decide)
  refine ⟨?_, ⟨by simp [h.rows.1], fun k h1 h2 => ?_⟩, fun a b ha hb hab => ?_⟩
  · have := hB'.set_ j v'
    rwa [List.setIfInBounds_toArray] at this
  · rw [List.length_set] at h1 h2
    by_cases e : k = j
    · subst e
      rw [List.getElem_set_self, List.getElem_set_self]
      exact own_storeQ hg.own hB'
    · rw [List.getElem_set_ne (Ne.symm e), List.getElem_set_ne (Ne.symm e)]
      have hok := h.rows.2 k h1 h2
      refine own_storeQ (ownsRow_keepQ hok fun gk hgk => ?_) hB'
      refine hg.grown.block gk (hok.lt gk hgk).2 ?_
      rcases h.sep k j h1 hj e with h0 | h0
      · rw [h0] at hgk; cases hgk
      · rw [hgk] at h0; exact h0
  · have ha' := ha
    have hb' := hb
    rw [List.length_set] at ha' hb'
    have key : ∀ c (hc : c < us.length), c ≠ j → v'.ownBlock = none ∨ us[c].ownBlock = none ∨ v'.ownBlock ≠ us[c].ownBlock := fun c hc hcj => by
      rcases hg.at_ with e | ⟨k, e, hk⟩
      · rw [e]
        rcases h.sep j c hj hc (Ne.symm hcj) with h0 | h0
        · exact .inl h0
        · exact .inr (.inr h0)
      · rw [e]
        rcases hq : us[c].ownBlock with _ | q
        · exact .inr (.inl rfl)
        · have := ((h.rows.2 c hc (by rw [← h.rows.1]; exact hc)).lt q hq).2
          exact .inr (.inr (fun e2 => by injection e2 with e2; omega))
    by_cases e : a = j
    · subst e
      rw [List.getElem_set_self, List.getElem_set_ne hab]
      rcases key b hb' (Ne.symm hab) with h0 | h0 | h0
      · exact .inl h0
      · by_cases h1 : v'.ownBlock = none
        · exact .inl h1
        · exact .inr (fun e => h1 (e.trans h0))
      · exact .inr h0
    · rw [List.getElem_set_ne (Ne.symm e)]
      by_cases e2 : b = j
      · subst e2
        rw [List.getElem_set_self]
        rcases key a ha' e with h0 | h0 | h0
        · by_cases h1 : us[a].ownBlock = none
          · exact .inl h1
          · exact .inr (fun e => h1 (e.trans h0))
        · exact .inl h0
        · exact .inr (Ne.symm h0)
      · rw [List.getElem_set_ne (Ne.symm e2)]
        exact h.sep a b ha' hb' hab
theorem ColsQ.below {w w' : World} {base g : Nat} {us : List Value} {ls : List (List Int)} (h : ColsQ w base g us ls) (hb : Below w.heap.size w w') : ColsQ w' base g us ls :=
  ⟨h.blk.below hb h.blk.lt, h.rows.below hb, h.sep⟩
theorem ColsQ.cell {w : World} {base g j : Nat} {us : List Value} {ls : List (List Int)} (h : ColsQ w base g us ls) (hj : j < us.length) : w.cell? ⟨g, j, none⟩ = some us[j] := by
  rw [h.blk.cell]
  simp [List.getElem?_eq_getElem hj]
theorem ColsQ.low {w0 w w' : World} {base g j B : Nat} {us : List Value} {ls : List (List Int)} {v' : Value} {x : Int} (h : ColsQ w base g us ls) (hj : j < us.length) (hj' : j < ls.length)
    (hg : Grew w w' base us[j] v' (ls[j] ++ [x])) (hb : Below B w0 w) (h1 : B ≤ base) (h2 : B ≤ w.heap.size) (h3 : B ≤ g) : Below B w0 (w'.setCell ⟨g, j, none⟩ v') :=
  (hg.below hb (h.rows.2 j hj hj') h1 h2).setCell (p := ⟨g, j, none⟩) h3 v'
section
variable (C : Nat → List Int) (N : Nat)
def rowT (i j : Nat) : List (List Int) := (List.range N).map fun k => if k < i then C k else if k = i then (C k).take j else []
theorem rowT_len (i j : Nat) : (rowT C N i j).length = N := by simp [rowT]
theorem rowT_at {i j k : Nat} (h : k < N) : (rowT C N i j)[k]'(by rw [rowT_len]; exact h) = if k < i then C k else if k = i then (C k).take j else [] := by simp [rowT]
theorem rowT_zero : rowT C N 0 0 = List.replicate N [] := by
  apply List.ext_getElem
  · simp [rowT]
  · intro k h1 h2
    rw [rowT_len] at h1
    rw [rowT_at C N h1, List.getElem_replicate, if_neg (by omega)]
    split <;> simp
theorem rowT_next {i m : Nat} (h : (C i).length = m) : rowT C N i m = rowT C N (i + 1) 0 := by
  unfold rowT
  refine List.map_congr_left fun k hk => ?_
  by_cases h1 : k < i
  · rw [if_pos h1, if_pos (by omega)]
  · rw [if_neg h1]
    by_cases h2 : k = i
    · subst h2
      rw [if_pos rfl, if_pos (by omega), List.take_of_length_le (by omega)]
    · rw [if_neg h2, if_neg (by omega)]
      split <;> simp
theorem rowT_set {i j : Nat} (hi : i < N) (hj : j < (C i).length) : (rowT C N i j).set i ((rowT C N i j)[i]'(by rw [rowT_len]; exact hi) ++ [(C i)[j]]) = rowT C N i (j + 1) := by
  apply List.ext_getElem
  · simp [rowT]
  · intro k h1 h2
    have h3 := h1
    rw [List.length_set, rowT_len] at h3
    rw [rowT_at C N h3]
    by_cases e : k = i
    · subst e
      rw [List.getElem_set_self, rowT_at C N h3, if_neg (by omega), if_pos rfl, if_neg (by omega), if_pos rfl, List.take_add_one, List.getElem?_eq_getElem hj, Option.toList_some]
    · rw [List.getElem_set_ne (Ne.symm e), rowT_at C N h3]
      split
      · rfl
      · simp only [if_neg e]
theorem rowT_done : rowT C N N 0 = (List.range N).map C := by
  unfold rowT
  exact List.map_congr_left fun k hk => if_pos (List.mem_range.1 hk)
end
end Go.Proofs.YtpkhcncempoohaaGreatDoor

namespace Go.Proofs.YtpkhcncempoohaaGreatDoor
open Go
section
variable {P : Program} {ops : Array Oper} {Q : Exit → Act → World → Prop} {md : Region.Mode} {C : World → Prop} {m : Nat}
def wpAnyM (P : Program) (md : Region.Mode) (ops : Array Oper) (Q : Exit → Act → World → Prop) (C : World → Prop) (m : Nat) : Nat → Array Bool → Act → World → Prop
  | 0, listed, a, w => Region.ready md ops listed = [] ∧ Q .normal a w
  | fuel + 1, listed, a, w =>
    (Region.ready md ops listed = [] → Q .normal a w) ∧
    ∀ i ∈ Region.ready md ops listed, wpOp P ops Q i (fun a' w' => ((listed.setIfInBounds i true).getD m false = false → C w') ∧ wpAnyM P md ops Q C m fuel (listed.setIfInBounds i true) a' w') a w
theorem wpAny_of_M : ∀ (fuel : Nat) (listed : Array Bool) (a : Act) (w : World), wpAnyM P md ops Q C m fuel listed a w → wpAny P md ops Q fuel listed a w
  | 0, _, _, _, h => h
  | fuel + 1, _, _, _, h => ⟨h.1, fun i hi => wpOp_mono (fun a' w' h' => wpAny_of_M fuel _ a' w' h'.2) (h.2 i hi)⟩
theorem wpAnyM_first {i : Nat} {oi : Oper} {v : Value} (hi : ops[i]? = some oi) (hsel : ∀ (j : Nat) (o : Oper) cs b, ops[j]? = some o → o.op ≠ .select cs b)
    (hQ : ∀ c a w, Q (.panic c) (a.put oi.dst v) w → Q (.panic c) a w) (him : i ≠ m) (hm : ∀ om, ops[m]? = some om → ∃ e ∈ om.after, Region.binds md e = true ∧ e.on = i) :
    ∀ (fuel : Nat) (listed : Array Bool) (a : Act) (w : World),
      (∀ j oj, ops[j]? = some oj → j ≠ i → listed.getD j true = false → (∀ e ∈ oj.after, Region.binds md e = true → e.on ≠ i) → oi.apart ops oj = true) →
      listed.getD m false = false → i ∈ Region.ready md ops listed → YieldsIf P ops C oi v a → C w →
      wpAnyM P md ops Q C m fuel (listed.setIfInBounds i true) (a.put oi.dst v) w → wpAnyM P md ops Q C m (fuel + 1) listed a w := by
  intro fuel
  induction fuel with
  | zero =>
    intro listed a w _ hlm hr hy hS H
    refine ⟨fun h => (by rw [h] at hr; cases hr), fun j hj => ?_⟩
    by_cases hji : j = i
    · subst hji; exact hy.wpOp hi hS ⟨fun _ => hS, H⟩
    · have := ready_mono hj hji
      rw [H.1] at this
      cases this
  | succ fuel ih =>
    intro listed a w hfree hlm hr hy hS H
    refine ⟨fun h => (by rw [h] at hr; cases hr), fun j hj => ?_⟩
    by_cases hji : j = i
    · subst hji; exact hy.wpOp hi hS ⟨fun _ => hS, H⟩
    · have h1 := H.2 j (ready_mono hj hji)
      obtain ⟨hjun, oj, hoj, hall⟩ := mem_ready.1 hj
      have hnot : ∀ e ∈ oj.after, Region.binds md e = true → e.on ≠ i := fun e he hb heq => by
        have h1 := hall e he hb
        have h0 := (mem_ready.1 hr).1
        rw [heq] at h1
        rcases Nat.lt_or_ge i listed.size with h' | h'
        · simp [h'] at h0 h1; rw [h0] at h1; cases h1
        · simp [Array.getElem?_eq_none h'] at h1
      have hjm : j ≠ m := fun e => by
        subst e
        obtain ⟨e, he, hb, hon⟩ := hm oj hoj
        exact hnot e he hb hon
      have h2 := wpOp_putIf hoj (hfree j oj hoj hji hjun hnot) (fun cs b => hsel i oi cs b hi) (fun cs b => hsel j oj cs b hoj) hQ hy h1
      have hfree' : ∀ k ok, ops[k]? = some ok → k ≠ i → (listed.setIfInBounds j true).getD k true = false →
          (∀ e ∈ ok.after, Region.binds md e = true → e.on ≠ i) → oi.apart ops ok = true := fun k ok hk hki hun hno => by
        refine hfree k ok hk hki ?_ hno
        by_cases hjk : j = k
        · subst hjk; exact hjun
        · rw [getD_set_ne true hjk] at hun; exact hun
      have hlm' : (listed.setIfInBounds j true).getD m false = false := by rw [getD_set_ne false hjm]; exact hlm
      have hlm2 : ((listed.setIfInBounds i true).setIfInBounds j true).getD m false = false := by rw [getD_set_ne false hjm, getD_set_ne false him]; exact hlm
      refine wpOp_mono (fun a' w' h3 => ⟨fun _ => h3.2.1 hlm2, ih (listed.setIfInBounds j true) a' w' hfree' hlm' (ready_mono hr (Ne.symm hji)) h3.1 (h3.2.1 hlm2) ?_⟩) h2
      rw [Array.setIfInBounds_comm _ _ hji]
      exact h3.2.2
theorem wpAnyM_firstT {i : Nat} {oi : Oper} {v : Value} (hi : ops[i]? = some oi) (hsel : ∀ (j : Nat) (o : Oper) cs b, ops[j]? = some o → o.op ≠ .select cs b)
    (hQ : ∀ c a w, Q (.panic c) (a.put oi.dst v) w → Q (.panic c) a w) (him : i ≠ m) :
    ∀ (fuel : Nat) (listed : Array Bool) (a : Act) (w : World),
      (∀ j oj, ops[j]? = some oj → j ≠ i → listed.getD j true = false → (∀ e ∈ oj.after, Region.binds md e = true → e.on ≠ i) → oi.apart ops oj = true) →
      i ∈ Region.ready md ops listed → YieldsIf P ops (fun _ => True) oi v a → (listed.getD m false = false → C w) →
      wpAnyM P md ops Q C m fuel (listed.setIfInBounds i true) (a.put oi.dst v) w → wpAnyM P md ops Q C m (fuel + 1) listed a w := by
  intro fuel
  induction fuel with
  | zero =>
    intro listed a w _ hr hy hS H
    refine ⟨fun h => (by rw [h] at hr; cases hr), fun j hj => ?_⟩
    by_cases hji : j = i
    · subst hji; exact hy.wpOp hi trivial ⟨fun h => hS (by rw [getD_set_ne false him] at h; exact h), H⟩
    · have := ready_mono hj hji
      rw [H.1] at this
      cases this
  | succ fuel ih =>
    intro listed a w hfree hr hy hS H
    refine ⟨fun h => (by rw [h] at hr; cases hr), fun j hj => ?_⟩
    by_cases hji : j = i
    · subst hji; exact hy.wpOp hi trivial ⟨fun h => hS (by rw [getD_set_ne false him] at h; exact h), H⟩
    · have h1 := H.2 j (ready_mono hj hji)
      obtain ⟨hjun, oj, hoj, hall⟩ := mem_ready.1 hj
      have hnot : ∀ e ∈ oj.after, Region.binds md e = true → e.on ≠ i := fun e he hb heq => by
        have h1 := hall e he hb
        have h0 := (mem_ready.1 hr).1
        rw [heq] at h1
        rcases Nat.lt_or_ge i listed.size with h' | h'
        · simp [h'] at h0 h1; rw [h0] at h1; cases h1
        · simp [Array.getElem?_eq_none h'] at h1
      have h2 := wpOp_putIf hoj (hfree j oj hoj hji hjun hnot) (fun cs b => hsel i oi cs b hi) (fun cs b => hsel j oj cs b hoj) hQ hy h1
      have hfree' : ∀ k ok, ops[k]? = some ok → k ≠ i → (listed.setIfInBounds j true).getD k true = false →
          (∀ e ∈ ok.after, Region.binds md e = true → e.on ≠ i) → oi.apart ops ok = true := fun k ok hk hki hun hno => by
        refine hfree k ok hk hki ?_ hno
        by_cases hjk : j = k
        · subst hjk; exact hjun
        · rw [getD_set_ne true hjk] at hun; exact hun
      have hC : ∀ w', (((listed.setIfInBounds i true).setIfInBounds j true).getD m false = false → C w') → ((listed.setIfInBounds j true).getD m false = false → C w') := fun w' h h' => h (by
        rw [Array.setIfInBounds_comm _ _ (Ne.symm hji), getD_set_ne false him]; exact h')
      refine wpOp_mono (fun a' w' h3 => ⟨hC w' h3.2.1, ih (listed.setIfInBounds j true) a' w' hfree' (ready_mono hr (Ne.symm hji)) h3.1 (hC w' h3.2.1) ?_⟩) h2
      rw [Array.setIfInBounds_comm _ _ hji]
      exact h3.2.2
theorem wpAnyM_take {i d : Nat} {oi : Oper} {v : Value} {fuel : Nat} {listed : Array Bool} {a : Act} {w : World} (hi : ops[i]? = some oi) (hd : oi.dst = some d)
    (hs : Region.noSelect ops = true) (hf : Region.free md ops listed i = true) (hr : (Region.ready md ops listed).contains i = true)
    (hQ : ∀ c a w, Q (.panic c) (a.put (some d) v) w → Q (.panic c) a w) (him : decide (i = m) = false) (hm : (match ops[m]? with | some om => om.after.any fun e => Region.binds md e && e.on == i | none => true) = true) (hlm : listed.getD m false = false) (hy : YieldsIf P ops C oi v a) (hS : C w)
    (h : wpAnyM P md ops Q C m fuel (listed.setIfInBounds i true) (a.put (some d) v) w) : wpAnyM P md ops Q C m (fuel + 1) listed a w := by
  rw [← hd] at h hQ
  refine wpAnyM_first hi (Region.noSelect_spec hs) hQ (by simpa using him) (fun om hom => ?_) fuel listed a w (Region.free_spec hi hf) hlm (by simpa using hr) hy hS h
  rw [hom] at hm
  obtain ⟨q, hq, h2⟩ := Array.any_eq_true.1 hm
  simp only [Bool.and_eq_true, beq_iff_eq] at h2
  exact ⟨_, Array.getElem_mem hq, h2.1, h2.2⟩
theorem wpAnyM_takeT {i d : Nat} {oi : Oper} {v : Value} {fuel : Nat} {listed : Array Bool} {a : Act} {w : World} (hi : ops[i]? = some oi) (hd : oi.dst = some d)
    (hs : Region.noSelect ops = true) (hf : Region.free md ops listed i = true) (hr : (Region.ready md ops listed).contains i = true)
    (hQ : ∀ c a w, Q (.panic c) (a.put (some d) v) w → Q (.panic c) a w) (him : decide (i = m) = false) (hy : YieldsIf P ops (fun _ => True) oi v a) (hS : listed.getD m false = false → C w)
    (h : wpAnyM P md ops Q C m fuel (listed.setIfInBounds i true) (a.put (some d) v) w) : wpAnyM P md ops Q C m (fuel + 1) listed a w := by
  rw [← hd] at h hQ
  exact wpAnyM_firstT hi (Region.noSelect_spec hs) hQ (by simpa using him) fuel listed a w (Region.free_spec hi hf) (by simpa using hr) hy hS h
def AllReadyM (P : Program) (md : Region.Mode) (ops : Array Oper) (Q : Exit → Act → World → Prop) (C : World → Prop) (m fuel : Nat) (listed : Array Bool) (a : Act) (w : World) (rs : List Nat) : Prop :=
  ∀ i ∈ rs, wpOp P ops Q i (fun a' w' => ((listed.setIfInBounds i true).getD m false = false → C w') ∧ wpAnyM P md ops Q C m fuel (listed.setIfInBounds i true) a' w') a w
theorem AllReadyM.nil {fuel : Nat} {listed : Array Bool} {a : Act} {w : World} : AllReadyM P md ops Q C m fuel listed a w [] := fun _ h => by cases h
theorem AllReadyM.cons {fuel : Nat} {listed : Array Bool} {a : Act} {w : World} {i : Nat} {o : Oper} {rs : List Nat} (ho : ops[i]? = some o)
    (h : ∀ K' : Act → World → Prop, Shut (∀ a w, ((listed.setIfInBounds i true).getD m false = false → C w) → wpAnyM P md ops Q C m fuel (listed.setIfInBounds i true) a w → K' a w) → if Region.wanted o (yielded ops a.tmps) = true then Oper.wp P o a w K' Q else K' (a.put o.dst undef) w)
    (hs : AllReadyM P md ops Q C m fuel listed a w rs) : AllReadyM P md ops Q C m fuel listed a w (i :: rs) := fun j hj => by
  rcases List.mem_cons.1 hj with rfl | hj
  · exact wpOp_step ho (fun K' hK => h K' (fun a w hS hW => hK a w ⟨hS, hW⟩))
  · exact hs j hj
theorem wpAnyM_ready {rs : List Nat} {fuel : Nat} {listed : Array Bool} {a : Act} {w : World} (hr : Region.ready md ops listed = rs) (hne : rs ≠ [])
    (h : AllReadyM P md ops Q C m fuel listed a w rs) : wpAnyM P md ops Q C m (fuel + 1) listed a w := ⟨fun h0 => absurd (hr ▸ h0) hne, hr ▸ h⟩
theorem wpAnyM_done {listed : Array Bool} {a : Act} {w : World} (hr : Region.ready md ops listed = []) (h : Q .normal a w) : ∀ fuel, wpAnyM P md ops Q C m fuel listed a w
  | 0 => ⟨hr, h⟩
  | _ + 1 => ⟨fun _ => h, by rw [hr]; simp⟩
theorem wp_region_M (m : Nat) {id : Nat} {a : Act} {w : World} (hm : P.follows .mixedOrders = true) (h : wpAnyM P .any ops Q C m ops.size (Array.replicate ops.size false) a w.drew) : (Code.region id ops true).wp P Q a w :=
  wp_region_any hm (wpAny_of_M _ _ _ _ h)
end
end Go.Proofs.YtpkhcncempoohaaGreatDoor

namespace Go.Proofs.YtpkhcncempoohaaGreatDoor
open Go.RowKit Zp
theorem step_oneQ {ops : Array Oper} {o : Oper} {a : Act} {K : Act → World → Prop} {Q : Exit → Act → World → Prop} {E : Prop} (w W : World) (n : Int) (hW : W = w.alloc (.cells #[vi n] 3)) (hgd : o.guard = none) (s x : Operand)
    (ho : o.op = .call { callee := .builtin .append, args := #[s, x], argTypes := #[26, 26] })
    (base : Nat) (v : Value) (xs : List Int) (hs : a.eval s = v) (hx : a.eval x = .slice (some ⟨w.heap.size, 0, none⟩) 1 1) (hown : Own w base v xs) (hlen : xs.length < 17592186044416) (hbase : base ≤ w.heap.size)
    (h : ∀ v' w', Grew w w' base v v' (xs ++ [n]) → K (a.put o.dst v') w') :
    if Region.wanted o (yielded ops a.tmps) = true then Oper.wp Tryz.prog o a W K Q else E := by
  have hw : Region.wanted o (yielded ops a.tmps) = true := by simp [Region.wanted, hgd]
  rw [if_pos hw]
  subst hW
  obtain ⟨v', w', hrun, hg⟩ := run_app1 w base v xs n hown hlen hbase o.type
  unfold Oper.wp execOp
  simp only [ho, resolve, invoke, builtin, Sem.run_bind, Sem.run_pure, Result.andThen_ok, List.map_toArray, List.map_cons, List.map_nil, hs, hx, hrun]
  exact h v' w' hg
set_option maxRecDepth 100000 in
set_option maxHeartbeats 4000000 in
theorem turned_any (AT : Option Addr) (m cT N : Nat) (ls : List (List Int)) (hm : ls.length = m) (hm1 : 1 ≤ m) (hm5 : m ≤ 1000) (hN : ∀ l ∈ ls, l.length = N) (hN5 : N ≤ 65536) (w : World) (hT : TB w AT ls) :
    Calls Tryz.prog 32 #[.slice AT m cT] w fun e w' => ∃ g us, e = .returned (.slice (some ⟨g, 0, none⟩) N N) ∧ w.heap.size ≤ g ∧ ColsQ w' w.heap.size g us ((List.range N).map (colI ls)) ∧ Below w.heap.size w w' := by
  have HT := Lib.hid hT
  have HM := Lib.hid hm
  have HN := Lib.hid hN
  obtain ⟨ad, A0, n0, c0, rfl, ha0, hc0, hl0, hn0, hs0, hi0⟩ := hT 0 (by omega)
  have e0 : n0 = N := by rw [← hl0]; exact hN _ (List.getElem_mem _)
  rw [e0, show ad.add 0 = ad by cases ad; simp [Addr.add]] at hc0
  have z1 : (0 : Int) < (m : Int) := by omega
  obtain ⟨C, hC⟩ : ∃ C, C = colI ls := ⟨_, rfl⟩
  have hCl : ∀ k, (C k).length = m := fun k => by rw [hC, colI_len, hm]
  rw [← hC, ← rowT_done C N]
  have hmk := make_nilQ N (by omega) w
  obtain ⟨w1, hw1⟩ : ∃ w1, w1 = w.alloc (.cells (nilQ N) 26) := ⟨_, rfl⟩
  have hb1 : Below w.heap.size w w1 := by rw [hw1]; exact (Below.refl _ _).alloc (Nat.le_refl _) _
  obtain ⟨g, hg⟩ : ∃ g, g = w.heap.size := ⟨_, rfl⟩
  have hC1 : ColsQ w1 w.heap.size g (List.replicate N (.slice none 0 0)) (rowT C N 0 0) := by
    rw [hw1, hg, rowT_zero]
    exact ColsQ.made w w.heap.size N (Nat.le_refl _)
  have HC := Lib.hid hC
  have HCL := Lib.hid hCl
  have HC1 := Lib.hid (And.intro hC1 hb1)
  have HW1 := Lib.hid hw1
  have HG := Lib.hid hg
  clear hT hm hN hl0 hn0 hs0 hi0 e0 hC hCl hC1 hb1 hw1 hg ha0
  go_enter Tryz.func32, Tryz.ntmps32
  go_upto_region 2 with (fail)
  rw [← HW1.out, ← HG.out]
  go_wp2
  go_loopw [14] (fun i wr => ∃ r : Nat, r ≤ N ∧ i = vi r ∧ Below w.heap.size w wr ∧ ∃ us, ColsQ wr w.heap.size g us (rowT C N r 0)) (fun i _ => N - (intOf i).toNat)
  case atStart => exact ⟨0, Nat.zero_le _, rfl, HC1.out.2, _, HC1.out.1⟩
  case round =>
    rename World => w2
    obtain ⟨r, hr, rfl, hb, us, hC2⟩ := hrel
    by_cases hrN : r < N
    · have HC2 := Lib.hid (And.intro hC2 hb)
      have i1 : (0 : Int) ≤ (r : Int) := by omega
      have i2 : (r : Int) < (N : Int) := by omega
      clear hC2 hb
      go_wp2
      go_loopw [19] (fun i wr => ∃ j : Nat, j ≤ m ∧ i = vi j ∧ Below w.heap.size w wr ∧ ∃ us, ColsQ wr w.heap.size g us (rowT C N r j)) (fun i _ => m - (intOf i).toNat)
      case atStart => exact ⟨0, Nat.zero_le _, rfl, HC2.out.2, us, HC2.out.1⟩
      case round =>
        rename World => w4
        obtain ⟨j, hj, rfl, hb4, us4, hC4⟩ := hrel
        by_cases hjm : j < m
        · have hjr : j < ls.length := by rw [HM.out]; exact hjm
          obtain ⟨ad', A1, n1, c1, e', ha1, hc1, hl1, hn1, hs1, hi1⟩ := HT.out j hjr
          injection e' with e'
          subst e'
          have hc4 := (hb4.cell ha1).trans hc1
          have en : n1 = N := by rw [← hl1]; exact HN.out _ (List.getElem_mem _)
          rw [en] at hc4
          have hrl : r < ls[j].length := by rw [hl1, en]; exact hrN
          obtain ⟨ad1, rfl, hbl1, cx0⟩ := hs1.at_ hrl
          have cx := (hb4.cell (p := ad1.add r) (by rw [block_of_add]; exact hbl1)).trans cx0
          obtain ⟨X, hX⟩ : ∃ X, X = ls[j][r] := ⟨_, rfl⟩
          rw [← hX] at cx cx0
          have HAD := Lib.hid (fun (W : World) (hW : Below w.heap.size w W) => (hW.cell (p := ad1.add r) (by rw [block_of_add]; exact hbl1)).trans cx0)
          clear hbl1 cx0
          have hku : r < us4.length := by rw [hC4.rows.1, rowT_len]; exact hrN
          have hkl : r < (rowT C N r j).length := by rw [rowT_len]; exact hrN
          have hCj : j < (C r).length := by rw [HCL.out]; exact hjm
          have hset := rowT_set C N (i := r) (j := j) hrN hCj
          have hxe : (C r)[j] = X := by
            subst hX
            have : C r = colI ls r := by rw [HC.out]
            simp only [this, colI, List.getElem_map]
            rw [List.getD_eq_getElem?_getD, List.getElem?_eq_getElem hrl]
            rfl
          rw [hxe] at hset
          have cU := hC4.cell hku
          obtain ⟨w5, hw5⟩ : ∃ w5, w5 = w4.drew := ⟨_, rfl⟩
          have hb45 : Below w4.heap.size w4 w5 := by rw [hw5]; exact below_drewN (Below.refl _ _) 1
          have hC5 := hC4.below hb45
          have hb5 := hb4.trans (hb45.mono hb4.size)
          have HW5 := Lib.hid hw5
          have HB5 := Lib.hid hb5
          have hx0 := hX
          have HCX : Hid (∀ W, Below w.heap.size w W → W.cell? (ad1.add r) = some (vi X)) := Lib.hid fun W hW => HAD.out W hW
          clear hx0
          have ho := hC5.rows.2 r hku hkl
          have hGR := fun v' w' (h : Grew w5 w' w.heap.size us4[r] v' ((rowT C N r j)[r] ++ [X])) => hC5.grow hku hkl h
          rw [hset] at hGR
          have hLOW := fun v' w' (h : Grew w5 w' w.heap.size us4[r] v' ((rowT C N r j)[r] ++ [X])) => hC5.low hku hkl h hb5 (Nat.le_refl _) hb5.size (show w.heap.size ≤ g by have := HG.out; omega)
          have hFAR := fun v' w' (h : Grew w5 w' w.heap.size us4[r] v' ((rowT C N r j)[r] ++ [X])) => (row_farQ (show w5.ownsRow w.heap.size 3 1 us4[r] _ _ from ho) h.grown (show Blk w5 g 26 us4.toArray from hC5.blk) (by decide))
          have hcu : us4.toArray[r]? = some us4[r] := by simp [List.getElem?_eq_getElem hku]
          have hlnk : (rowT C N r j)[r].length < 17592186044416 := by
            rw [rowT_at C N hrN, if_neg (by omega), if_pos rfl, List.length_take, HCL.out]
            omega
          obtain ⟨U, hU⟩ : ∃ U, U = us4[r] := ⟨_, rfl⟩
          obtain ⟨L, hL⟩ : ∃ L, L = (rowT C N r j)[r] := ⟨_, rfl⟩
          rw [← hU] at cU hGR hLOW hFAR ho hcu
          rw [← hL] at hGR hLOW hFAR ho hlnk
          have HGR := Lib.hid hGR
          have HLOW := Lib.hid hLOW
          have HFAR := Lib.hid hFAR
          have HO := Lib.hid ho
          have HLK := Lib.hid hlnk
          have HCU := Lib.hid hcu
          have HSB := Lib.hid hb5.size
          have ea := addQ' g r
          have i3 : (0 : Int) ≤ (j : Int) := by omega
          have i4 : (j : Int) < (m : Int) := by omega
          clear hb4 hb5 hb45 hC4 hC5 hw5 hset ho hGR hLOW hFAR hU hL hX hlnk hku hkl hcu hc1 hs1 hi1 hl1 hrl hCj hxe en ha1
          have KX : Hid (∀ W, Below w4.heap.size w4 W → W.cell? ⟨g, r, none⟩ = some U ∧ W.cell? (ad1.add r) = some (vi X)) := Lib.hid fun W hW => ⟨(hW.cell (block_lt_of_cell cU)).trans cU, (hW.cell (block_lt_of_cell cx)).trans cx⟩
          have HBX := Lib.hid (show Below w4.heap.size w4 w5 by rw [HW5.out]; exact below_drewN (Below.refl _ _) 1)
          have HGW : Hid (∀ W, Below w.heap.size w W → W.cell? (ad1.add r) = some (vi X)) := Lib.hid fun W hW => HCX.out W hW
          have e5 : w5.drew = w5.drew := rfl
          clear e5
          go_upto_region 8 with (fail)
          refine wp_region_M (C := fun W => W.cell? ⟨g, r, none⟩ = some U ∧ W.cell? (ad1.add r) = some (vi X)) 13 (by kernel_rfl) ?_
          rw [← HW5.out]
          have xx := KX.out w5 HBX.out
          refine wpAnyM_takeT (i := 0) rfl rfl (by kernel_rfl) (by kernel_rfl) (by kernel_rfl) (fun _ _ _ h => h) (by decide) (Or.inl ⟨by rfl, by (intro w hSw; go_simp; try with_reducible rfl)⟩) (by first | exact fun _ => by assumption | exact fun h => absurd h (by decide)) ?_
          (try simp only [Act.put, List.setIfInBounds_toArray, List.set_cons_zero, List.set_cons_succ])
          refine wpAnyM_takeT (i := 1) rfl rfl (by kernel_rfl) (by kernel_rfl) (by kernel_rfl) (fun _ _ _ h => h) (by decide) (Or.inl ⟨by rfl, by (intro w hSw; go_simp; try with_reducible rfl)⟩) (by first | exact fun _ => by assumption | exact fun h => absurd h (by decide)) ?_
          (try simp only [Act.put, List.setIfInBounds_toArray, List.set_cons_zero, List.set_cons_succ])
          refine wpAnyM_takeT (i := 2) rfl rfl (by kernel_rfl) (by kernel_rfl) (by kernel_rfl) (fun _ _ _ h => h) (by decide) (Or.inl ⟨by rfl, by (intro w hSw; go_simp; try with_reducible rfl)⟩) (by first | exact fun _ => by assumption | exact fun h => absurd h (by decide)) ?_
          (try simp only [Act.put, List.setIfInBounds_toArray, List.set_cons_zero, List.set_cons_succ])
          refine wpAnyM_takeT (i := 3) rfl rfl (by kernel_rfl) (by kernel_rfl) (by kernel_rfl) (fun _ _ _ h => h) (by decide) (Or.inl ⟨by rfl, by (intro w hSw; go_simp; try with_reducible rfl)⟩) (by first | exact fun _ => by assumption | exact fun h => absurd h (by decide)) ?_
          (try simp only [Act.put, List.setIfInBounds_toArray, List.set_cons_zero, List.set_cons_succ])
          refine wpAnyM_takeT (i := 4) rfl rfl (by kernel_rfl) (by kernel_rfl) (by kernel_rfl) (fun _ _ _ h => h) (by decide) (Or.inl ⟨by rfl, by (intro w hSw; go_simp; try with_reducible rfl)⟩) (by first | exact fun _ => by assumption | exact fun h => absurd h (by decide)) ?_
          (try simp only [Act.put, List.setIfInBounds_toArray, List.set_cons_zero, List.set_cons_succ])
          refine wpAnyM_take (i := 5) rfl rfl (by kernel_rfl) (by kernel_rfl) (by kernel_rfl) (fun _ _ _ h => h) (by decide) (by kernel_rfl) (by kernel_rfl) (Or.inl ⟨by rfl, by (intro w hSw; (try dsimp only at hSw); go_simp; try with_reducible rfl)⟩) (by assumption) ?_
          (try simp only [Act.put, List.setIfInBounds_toArray, List.set_cons_zero, List.set_cons_succ])
          refine wpAnyM_takeT (i := 6) rfl rfl (by kernel_rfl) (by kernel_rfl) (by kernel_rfl) (fun _ _ _ h => h) (by decide) (Or.inl ⟨by rfl, by (intro w hSw; go_simp; try with_reducible rfl)⟩) (by first | exact fun _ => by assumption | exact fun h => absurd h (by decide)) ?_
          (try simp only [Act.put, List.setIfInBounds_toArray, List.set_cons_zero, List.set_cons_succ])
          refine wpAnyM_takeT (i := 7) rfl rfl (by kernel_rfl) (by kernel_rfl) (by kernel_rfl) (fun _ _ _ h => h) (by decide) (Or.inl ⟨by rfl, by (intro w hSw; go_simp; try with_reducible rfl)⟩) (by first | exact fun _ => by assumption | exact fun h => absurd h (by decide)) ?_
          (try simp only [Act.put, List.setIfInBounds_toArray, List.set_cons_zero, List.set_cons_succ])
          refine wpAnyM_takeT (i := 8) rfl rfl (by kernel_rfl) (by kernel_rfl) (by kernel_rfl) (fun _ _ _ h => h) (by decide) (Or.inl ⟨by rfl, by (intro w hSw; go_simp; try with_reducible rfl)⟩) (by first | exact fun _ => by assumption | exact fun h => absurd h (by decide)) ?_
          (try simp only [Act.put, List.setIfInBounds_toArray, List.set_cons_zero, List.set_cons_succ])
          refine wpAnyM_take (i := 9) rfl rfl (by kernel_rfl) (by kernel_rfl) (by kernel_rfl) (fun _ _ _ h => h) (by decide) (by kernel_rfl) (by kernel_rfl) (Or.inl ⟨by rfl, by (intro w hSw; (try dsimp only at hSw); go_simp; try with_reducible rfl)⟩) (by assumption) ?_
          (try simp only [Act.put, List.setIfInBounds_toArray, List.set_cons_zero, List.set_cons_succ])
          refine wpAnyM_ready (rs := [10]) (by kernel_rfl) (by simp) ?_
          refine AllReadyM.cons rfl (fun K hK => ?_) AllReadyM.nil
          go_simp
          refine hK.out _ _ (fun _ => KX.out _ (HBX.out.alloc HBX.out.size _)) ?_
          clear hK K
          (try simp only [Act.put, List.setIfInBounds_toArray, List.set_cons_zero, List.set_cons_succ])
          clear xx
          refine wpAnyM_ready (rs := [11]) (by kernel_rfl) (by simp) ?_
          refine AllReadyM.cons rfl (fun K hK => ?_) AllReadyM.nil
          refine step_oneQ w5 _ X (by rfl) (by rfl) _ _ (by rfl) w.heap.size U L (by rfl) (by rfl) HO.out HLK.out HSB.out ?_
          intro v7 w7 hg7
          have hF7 := HFAR.out _ _ hg7
          have z7 := hF7.frozen r
          have x7 := (hF7.cell r).trans HCU.out
          have yy : w7.cell? ⟨g, r, none⟩ = some U ∧ w7.cell? (ad1.add r) = some (vi X) := ⟨x7, HGW.out _ (hg7.below HB5.out HO.out (Nat.le_refl _) HSB.out)⟩
          obtain ⟨A7, n7, c7, rfl, hl7, _, _, _⟩ := hg7.own.shapeN
          have H7 := Lib.hid (And.intro (HGR.out _ _ hg7) (HLOW.out _ _ hg7))
          refine hK.out _ _ (fun _ => yy) ?_
          clear hK K
          (try simp only [Act.put, List.setIfInBounds_toArray, List.set_cons_zero, List.set_cons_succ])
          clear hg7 hl7 hF7
          refine wpAnyM_takeT (i := 12) rfl rfl (by kernel_rfl) (by kernel_rfl) (by kernel_rfl) (fun _ _ _ h => h) (by decide) (Or.inl ⟨by rfl, by (intro w hSw; go_simp; try with_reducible rfl)⟩) (by first | exact fun _ => by assumption | exact fun h => absurd h (by decide)) ?_
          (try simp only [Act.put, List.setIfInBounds_toArray, List.set_cons_zero, List.set_cons_succ])
          refine wpAnyM_ready (rs := [13]) (by kernel_rfl) (by simp) ?_
          refine AllReadyM.cons rfl (fun K hK => ?_) AllReadyM.nil
          go_simp
          refine hK.out _ _ (fun h => absurd h (by decide)) ?_
          clear hK K
          (try simp only [Act.put, List.setIfInBounds_toArray, List.set_cons_zero, List.set_cons_succ])
          refine wpAnyM_done (by kernel_rfl) ?_ _
          clear x7 z7 cU cx yy
          go_wp2
          go_roundw
          case rel => exact ⟨j + 1, by omega, by go_num, H7.out.2, _, H7.out.1⟩
          case measure => simp only [intOf, Int.toNat_natCast]; omega
        · obtain rfl : j = m := by omega
          rw [rowT_next C N (HCL.out r)] at hC4
          have HB4 := Lib.hid (And.intro hb4 hC4)
          clear hb4 hC4
          go_wp2
          go_roundw
          case rel => exact ⟨r + 1, by omega, by go_num, HB4.out.1, _, HB4.out.2⟩
          case measure => simp only [intOf, Int.toNat_natCast]; omega
    · obtain rfl : r = N := by omega
      have HB2 := Lib.hid (And.intro hb hC2)
      clear hb hC2
      go_wp2
      go_ret
      exact ⟨g, us, rfl, by rw [HG.out]; exact Nat.le_refl _, HB2.out.2, HB2.out.1⟩
end Go.Proofs.YtpkhcncempoohaaGreatDoor
