/- A bundle of texts: Spread, Dv, St, Un, Sg1. -/
import Derived.Test.YtflkiddmakeabaaGreatDoorR01
import Derived.Deep.RegionHeld3
import Derived.Test.YtflkiddmakeabaaGreatDoorR00
import Derived.Deep.MidRow
import Derived.Deep.WholeRow
import Derived.Deep.RegionLaw
import Derived.IntWalk
/- The walk of (*Domain).spread: what a polynomial is at the powers of a root, by halves. -/
set_option linter.unusedVariables false
namespace Go.Proofs.YtflkiddmakeabaaGreatDoor
open Go.RowKit Zp

def SpreadTo (p : Nat) [NeZero p] (base m : Nat) (xs : List Int) (r : Fin p) (w : World) (e : Ending) (w' : World) : Prop :=
  ∃ v' ys, e = .returned v' ∧ Own w' base v' ys ∧ (∀ y ∈ ys, I64 y) ∧ els p ys = dft r m (els p xs) ∧ (m = 1 → ys = xs) ∧ (m ≠ 1 → ys = fvs (dft r m (els p xs))) ∧ Below w.heap.size w w'
def SpreadSpec (p S D b : Nat) [NeZero p] (n : Nat) (s : Fin p) (m : Nat) : Prop :=
  ∀ (w : World) (base : Nat) (v : Value) (xs : List Int) (r : Int), xs.length = m → (∀ x ∈ xs, I64 x) → I64 r → (m = 1 ∨ ∃ h, m = 2 * h ∧ pw (el p r) h = -1) → Dom w S D b p n s → Own w base v xs → base ≤ w.heap.size →
    Calls Tryz.prog 98 #[.pointer (some ⟨D, 0, none⟩), v, vi r] w fun e w' => SpreadTo p base m xs (el p r) w e w'

theorem dft_one {p : Nat} [NeZero p] (r x : Fin p) : dft r 1 [x] = [x] := by
  have : ev [x] (pw r 0) = x := by simp only [ev, pw_zero]; grind
  unfold dft tab
  rw [List.range_one, List.map_singleton, this]

theorem spread_one (p S D b : Nat) [NeZero p] (n : Nat) (s : Fin p) : SpreadSpec p S D b n s 1 := by
  intro w base v xs r hl hx hr _ hD ho hb
  obtain ⟨g, c, rfl, _, _⟩ := ho.block (by omega)
  have hd : els p xs = dft (el p r) 1 (els p xs) := by
    match xs, hl with
    | [x], _ => exact (dft_one _ _).symm
  have t1 : (((1 : Nat) : Int) == 1) = true := rfl
  rw [hl]
  have HL := Lib.hid hl
  have HD := Lib.hid hd
  clear hl hd
  go_enter Tryz.func98, Tryz.ntmps98
  go_wp2
  go_ret
  exact ⟨_, xs, rfl, by rw [HL.out] at ho; exact ho, hx, HD.out, fun _ => rfl, fun h => absurd rfl h, Below.refl _ _⟩

theorem grew_apart {wr w1 : World} {base : Nat} {v v' u : Value} {xs zs ys : List Int} (hd : ∀ g, v.ownBlock = some g → u.ownBlock ≠ some g) (hg : Grew wr w1 base v v' xs) (hv : Own wr base v zs) (hu : Own wr base u ys) :
    Own w1 base u ys ∧ ∀ g, v'.ownBlock = some g → u.ownBlock ≠ some g := by
  refine ⟨hu.grown hg.grown ?_, fun g hg' hu' => ?_⟩
  · cases e : u.ownBlock with
    | none => exact .inl rfl
    | some g => exact .inr fun h => hd g h.symm e
  · rcases hg.at_ with h | ⟨k, h1, h2⟩
    · exact hd g (h ▸ hg') hu'
    · rw [hg'] at h1
      injection h1 with h1
      have := (hu.lt g hu').2
      omega

def HalfRel (xs : List Int) (w : World) (ve vo i : Value) (wr : World) : Prop := ∃ j : Nat, j ≤ xs.length ∧ i = vi j ∧ Own wr w.heap.size ve (evI xs j) ∧ Own wr w.heap.size vo (odI xs j) ∧ (∀ g, ve.ownBlock = some g → vo.ownBlock ≠ some g) ∧ Below w.heap.size w wr
def JoinRel {p : Nat} [NeZero p] (r : Fin p) (l : List (Fin p)) (base m g : Nat) (x i : Value) (wr : World) : Prop := ∃ (j : Nat) (L : List (Fin p)), j ≤ m ∧ i = vi j ∧ x = vi (fv (pw r j)) ∧ OwnE wr base g (2 * m) L ∧ ∀ t, t < j → co L t = ev l (pw r t) ∧ co L (t + m) = ev l (pw r (t + m))

theorem join_step {p : Nat} [NeZero p] {l L : List (Fin p)} {R U V : Fin p} {t m : Nat} (htm : t < m) (hl : t + m < L.length) (h : ∀ j, j < t → co L j = ev l (pw R j) ∧ co L (j + m) = ev l (pw R (j + m))) (hU : U = ev l (pw R t)) (hV : V = ev l (pw R (t + m))) :
    ∀ j, j < t + 1 → co ((L.set t U).set (t + m) V) j = ev l (pw R j) ∧ co ((L.set t U).set (t + m) V) (j + m) = ev l (pw R (j + m)) := by
  intro j hj
  have e : ∀ x, co ((L.set t U).set (t + m) V) x = if x = t + m then V else if x = t then U else co L x := fun x => by
    rw [co_set _ _ _ (by simpa using hl), co_set _ _ _ (by omega)]
  rw [e, e, if_neg (by omega), if_neg (c := j + m = t) (by omega)]
  by_cases he : j = t
  · subst he
    rw [if_pos rfl, if_pos rfl]; exact ⟨hU, hV⟩
  · rw [if_neg he, if_neg (by omega)]; exact h j (by omega)
theorem join_done {p : Nat} [NeZero p] {l L : List (Fin p)} {R : Fin p} {m : Nat} (hl : L.length = 2 * m) (h : ∀ j, j < m → co L j = ev l (pw R j) ∧ co L (j + m) = ev l (pw R (j + m))) : L = dft R (2 * m) l := by
  refine ext_co (by rw [hl, dft_length]) fun i hi => ?_
  rw [dft, co_tab, if_pos (by omega)]
  by_cases h1 : i < m
  · exact (h i h1).1
  · have := (h (i - m) (by omega)).2
    rwa [show i - m + m = i from by omega] at this

set_option maxRecDepth 100000 in
set_option maxHeartbeats 2000000 in
theorem spread_step (p S D b : Nat) [NeZero p] (n : Nat) (s : Fin p) (m : Nat) (hm1 : 1 ≤ m) (hm2 : 2 * m ≤ 65536) (hpow : m = 1 ∨ ∃ h, m = 2 * h) (IH : SpreadSpec p S D b n s m) : SpreadSpec p S D b n s (2 * m) := by
  intro w base v xs r hl hx hr hcond hD ho hb
  have hrm : pw (el p r) m = -1 := by
    rcases hcond with h | ⟨h, e, e2⟩
    · omega
    · rw [show m = h from by omega]; exact e2
  have hcond2 : m = 1 ∨ ∃ h, m = 2 * h ∧ pw (el p r * el p r) h = -1 := hpow.imp id fun ⟨h, e⟩ => ⟨h, e, by
    rw [← hrm, e, pw_mul]
    congr 1
    simp only [pw]; grind⟩
  obtain ⟨g, c, rfl, hg1, hg2⟩ := ho.block (by omega)
  have hp2 := hD.fld.max
  have hsr := fun w' => @Own.below w w' base
  obtain ⟨R, hR⟩ : ∃ R, R = el p r := ⟨_, rfl⟩
  rw [← hR] at hrm hcond2 ⊢
  have HR := Lib.hid hR
  have HRM := Lib.hid hrm
  have HC2 := Lib.hid hcond2
  have HIH := Lib.hid IH
  have t0 : (((2 * m : Nat) : Int) == 1) = false := by rw [beq_eq_false_iff_ne]; omega
  rw [hl]
  have HL := Lib.hid hl
  clear hR hrm hcond hcond2 hpow IH hsr hl
  obtain ⟨N, hN⟩ : ∃ N, N = 2 * m := ⟨_, rfl⟩
  rw [← hN] at t0 hm2 HL ⊢
  have HN := Lib.hid hN
  have hN2 : m < N := by omega
  have hN3 : (N : Int) / 2 = (m : Int) := by omega
  clear hN
  go_enter Tryz.func98, Tryz.ntmps98
  go_wp2_with fail
  go_loopw [8, 9, 24] (fun ve vo i wr => HalfRel xs w ve vo i wr) (fun _ _ i _ => N - (intOf i).toNat)
  case atStart => exact ⟨0, Nat.zero_le _, rfl, World.ownsRow_nil _ _ _ _, World.ownsRow_nil _ _ _ _, fun g h => by simp [Value.ownBlock] at h, Below.refl _ _⟩
  case round =>
    obtain ⟨j, hj, rfl, hve, hvo, hap, hbw⟩ := hrel
    rw [HL.out] at hj
    by_cases hlt : j < N
    · have hjx : j < xs.length := by rw [HL.out]; exact hlt
      have hown := ho.below hbw
      have hcell := hown.at_ rfl j hjx
      have hI := hx _ (List.getElem_mem hjx)
      have hle1 : (evI xs j).length < 17592186044416 := by simp [evI]; omega
      have hle2 : (odI xs j).length < 17592186044416 := by simp [odI]; omega
      have hpar : j % 2 = 0 ∨ ¬ j % 2 = 0 := by omega
      rcases hpar with hev | hod
      · obtain ⟨e1, e2⟩ := evI_even hev hjx
        have t1 : ((j : Int) % 2 == 0) = true := by rw [beq_iff_eq]; omega
        obtain ⟨x, hxj⟩ : ∃ x, x = xs[j] := ⟨_, rfl⟩
        rw [← hxj] at hI hcell e1
        have E1 := Lib.hid e1
        have E2 := Lib.hid e2
        have HAP := Lib.hid hap
        clear hxj e1 e2 hev hap
        go_wp2_with (at_builtin; refine wpList_app1 wr x rfl _ _ rfl w.heap.size _ _ rfl rfl hve hle1 hbw.size ?_; intro v' w1 hg)
        obtain ⟨hvo1, hap1⟩ := grew_apart HAP.out hg hve hvo
        go_roundw
        case rel => exact ⟨j + 1, by rw [HL.out]; omega, by go_num, by rw [← E1.out]; exact hg.own, by rw [E2.out]; exact hvo1, hap1, hg.below hbw hve (Nat.le_refl _) hbw.size⟩
        case measure => simp [intOf]; omega
      · obtain ⟨e1, e2⟩ := odI_odd hod hjx
        have t1 : ((j : Int) % 2 == 0) = false := by rw [beq_eq_false_iff_ne]; omega
        obtain ⟨x, hxj⟩ : ∃ x, x = xs[j] := ⟨_, rfl⟩
        rw [← hxj] at hI hcell e1
        have E1 := Lib.hid e1
        have E2 := Lib.hid e2
        have hap' := fun (g : Nat) h1 h2 => hap g h2 h1
        have HAP := Lib.hid hap'
        clear hxj e1 e2 hod hap hap'
        go_wp2_with (at_builtin; refine wpList_app1 wr x rfl _ _ rfl w.heap.size _ _ rfl rfl hvo hle2 hbw.size ?_; intro v' w1 hg)
        obtain ⟨hve1, hap1⟩ := grew_apart HAP.out hg hvo hve
        go_roundw
        case rel => exact ⟨j + 1, by rw [HL.out]; omega, by go_num, by rw [E2.out]; exact hve1, by rw [← E1.out]; exact hg.own, fun g h1 h2 => hap1 g h2 h1, hg.below hbw hvo (Nat.le_refl _) hbw.size⟩
        case measure => simp [intOf]; omega
    · obtain rfl : j = N := by omega
      obtain ⟨hE1, hO1⟩ := els_evI (p := p) (xs := xs) (m := m) (by rw [HL.out, HN.out])
      rw [← HN.out] at hE1 hO1
      obtain ⟨hE2, hO2⟩ := evI_mem (P := I64) (by constructor <;> omega) hx j
      have hE3 : (evI xs j).length = m := by have := HN.out; simp [evI]; omega
      have hO3 : (odI xs j).length = m := by have := HN.out; simp [odI]; omega
      obtain ⟨E, hE⟩ : ∃ E, E = evI xs j := ⟨_, rfl⟩
      obtain ⟨O, hO⟩ : ∃ O, O = odI xs j := ⟨_, rfl⟩
      rw [← hE] at hE1 hE2 hE3 hve
      rw [← hO] at hO1 hO2 hO3 hvo
      have HE1 := Lib.hid hE1
      have HO1 := Lib.hid hO1
      have HE3 := Lib.hid hE3
      have HO3 := Lib.hid hO3
      clear hE1 hO1 hE3 hO3 hE hO hap
      have hDr := hD.below hbw hD.le
      have hcd := hDr.c0
      have hcb := hDr.fld.c0
      go_wp2_with fail
      refine (mul_any p hp2 b r r hr hr _ hcb).mono ?_
      rintro e w1 ⟨rfl, k1, rfl⟩
      rw [← HR.out]
      have hsq : I64 (fv (R * R)) := i64_fv _ hp2
      have hc2 : m = 1 ∨ ∃ h, m = 2 * h ∧ pw (el p (fv (R * R))) h = -1 := by rw [el_fv]; exact HC2.out
      have HC3 := Lib.hid hc2
      clear hc2
      go_wp2_with fail
      refine (HIH.out _ w.heap.size _ E (fv (R * R)) HE3.out hE2 hsq HC3.out (hDr.drewN k1) (hve.drewN k1) hbw.size).mono ?_
      rintro e w2 ⟨ve2, ys, rfl, hve2, hys, hysd, _, _, hb2⟩
      have hDs := (hDr.drewN k1).below hb2 (hDr.drewN k1).le
      have hvo1 := (hvo.drewN k1).below hb2
      have hbw2 : Below w.heap.size w w2 := (below_drewN hbw k1).trans (hb2.mono hbw.size)
      go_wp2_with fail
      refine (HIH.out _ w.heap.size _ O (fv (R * R)) HO3.out hO2 hsq HC3.out hDs hvo1 hbw2.size).mono ?_
      rintro e w3 ⟨vo2, zs, rfl, hvo2, hzs, hzsd, _, _, hb3⟩
      have hDt := hDs.below hb3 hDs.le
      have hve3 := hve2.below hb3
      have hbw3 : Below w.heap.size w w3 := hbw2.trans (hb3.mono hbw2.size)
      rw [el_fv, HE1.out] at hysd
      rw [el_fv, HO1.out] at hzsd
      have hysl : ys.length = m := by have := congrArg List.length hysd; rw [dft_length] at this; simpa using this
      have hzsl : zs.length = m := by have := congrArg List.length hzsd; rw [dft_length] at this; simpa using this
      have HYS := Lib.hid hysd
      have HZS := Lib.hid hzsd
      have HYL := Lib.hid hysl
      have HZL := Lib.hid hzsl
      clear hDr hcd hcb hve hvo hve2 hDs hvo1 hbw hbw2 hb2 hb3 hysd hzsd
      obtain ⟨gy, cy, e1, _, _⟩ := hve3.block (by rw [hysl]; omega)
      obtain ⟨gz, cz, e2, _, _⟩ := hvo2.block (by rw [hzsl]; omega)
      rw [hysl] at e1
      rw [hzsl] at e2
      subst e1 e2
      clear hysl hzsl
      have hmk := make_ints j j (Nat.le_refl _) (by omega)
      have hOE := OwnE.made (p := p) w3 w.heap.size j hbw3.size (by omega)
      rw [HN.out] at hOE
      have hDl := hDt.le
      go_wp2
      go_loopw [14, 60] (fun x i wr => JoinRel R (els p xs) w.heap.size m w3.heap.size x i wr ∧ Below w3.heap.size w3 wr) (fun _ i _ => m - (intOf i).toNat)
      case atStart => exact ⟨⟨0, _, Nat.zero_le _, rfl, by rw [pw_zero, fv_one hDt.fld.two], by rw [HN.out]; exact hOE, fun t ht => absurd ht (by omega)⟩, (Below.refl _ _).alloc (Nat.le_refl _) _⟩
      case round =>
        obtain ⟨⟨t, L, ht, rfl, rfl, hoe, hco⟩, hbl⟩ := hrel
        have hDw := hDt.below hbl hDl
        have hcd := hDw.c0
        have hcb := hDw.fld.c0
        have HCO := Lib.hid hco
        clear hco
        by_cases hlt : t < m
        · have hty : t < ys.length := by rw [HYL.out]; exact hlt
          have htz : t < zs.length := by rw [HZL.out]; exact hlt
          have hc1 := (hve3.below hbl).at_ HYL.out.symm t hty
          have hc2 := (hvo2.below hbl).at_ HZL.out.symm t htz
          have ha0 := hys _ (List.getElem_mem hty)
          have hz0 := hzs _ (List.getElem_mem htz)
          have hA : el p ys[t] = ev (evens (els p xs)) (pw (R * R) t) := by
            have h : co (els p ys) t = el p ys[t] := by rw [co_of_lt (by simpa using hty)]; simp
            rw [← h, HYS.out, dft, co_tab, if_pos hlt]
          have hZ : el p zs[t] = ev (odds (els p xs)) (pw (R * R) t) := by
            have h : co (els p zs) t = el p zs[t] := by rw [co_of_lt (by simpa using htz)]; simp
            rw [← h, HZS.out, dft, co_tab, if_pos hlt]
          obtain ⟨a0, hae⟩ : ∃ a, a = ys[t] := ⟨_, rfl⟩
          obtain ⟨z0, hze⟩ : ∃ z, z = zs[t] := ⟨_, rfl⟩
          rw [← hae] at hc1 ha0 hA
          rw [← hze] at hc2 hz0 hZ
          obtain ⟨X, hX⟩ : ∃ X, X = pw R t := ⟨_, rfl⟩
          rw [← hX]
          obtain ⟨Y, hY⟩ : ∃ Y, Y = X * el p z0 := ⟨_, rfl⟩
          obtain ⟨U, hU⟩ : ∃ U, U = el p a0 + Y := ⟨_, rfl⟩
          obtain ⟨V, hV⟩ : ∃ V, V = el p a0 - Y := ⟨_, rfl⟩
          have hU2 : U = ev (els p xs) (pw R t) := by rw [hU, hY, hX, hA, hZ]; exact (dft_lo R _ t).symm
          have hV2 : V = ev (els p xs) (pw R (t + m)) := by rw [hV, hY, hX, hA, hZ]; exact (dft_hi HRM.out _ t).symm
          have iX : I64 (fv X) := i64_fv X hp2
          have iY : I64 (fv Y) := i64_fv Y hp2
          have hmul : ∀ W : World, W.cell? ⟨b, 0, none⟩ = some (vi p) → Calls Tryz.prog 74 #[.pointer (some ⟨b, 0, none⟩), vi (fv X), vi z0] W fun e w' => e = .returned (vi (fv Y)) ∧ ∃ k, w' = W.drewN k := fun W h => by
            have := mul_any p hp2 b (fv X) z0 iX hz0 W h
            rw [el_fv, ← hY] at this; exact this
          have hadd : ∀ W : World, W.cell? ⟨b, 0, none⟩ = some (vi p) → Calls Tryz.prog 133 #[.pointer (some ⟨b, 0, none⟩), vi a0, vi (fv Y)] W fun e w' => e = .returned (vi (fv U)) ∧ ∃ k, w' = W.drewN k := fun W h => by
            have := add_any p hp2 b a0 (fv Y) ha0 iY W h
            rw [el_fv, ← hU] at this; exact this
          have hsub : ∀ W : World, W.cell? ⟨b, 0, none⟩ = some (vi p) → Calls Tryz.prog 134 #[.pointer (some ⟨b, 0, none⟩), vi a0, vi (fv Y)] W fun e w' => e = .returned (vi (fv V)) ∧ W = w' := fun W h => by
            have := sub_any p hp2 b a0 (fv Y) ha0 iY W h
            rw [el_fv, ← hV] at this; exact this
          have hX1 : X * R = pw R (t + 1) := by rw [hX, pw_succ]
          have hnx : ∀ W : World, W.cell? ⟨b, 0, none⟩ = some (vi p) → Calls Tryz.prog 74 #[.pointer (some ⟨b, 0, none⟩), vi (fv X), vi r] W fun e w' => e = .returned (vi (fv (pw R (t + 1)))) ∧ ∃ k, w' = W.drewN k := fun W h => by
            have := mul_any p hp2 b (fv X) r iX hr W h
            rw [el_fv, ← HR.out, hX1] at this; exact this
          have HMUL := Lib.hid hmul
          have HADD := Lib.hid hadd
          have HSUB := Lib.hid hsub
          have HNX := Lib.hid hnx
          have HU := Lib.hid hU2
          have HV := Lib.hid hV2
          clear hmul hadd hsub hnx hX1 hU2 hV2 hU hV hY hX hae hze hA hZ
          have i1 : (0 : Int) ≤ t := by omega
          have i2 : (t : Int) < m := by omega
          have i3 : (t : Int) < j := by omega
          have i4 : IntKind.i64.wrap ((t : Int) + m) = (t : Int) + m := IntWalk.i64_in _ (by omega)
          have i5 : (0 : Int) ≤ (t : Int) + m := by omega
          have i6 : (t : Int) + m < j := by have := HN.out; omega
          have i7 : ((t : Int) + m).toNat = t + m := by omega
          have i9 : IntKind.i64.wrap (m : Int) = (m : Int) := IntWalk.i64_in _ (by constructor <;> omega)
          have hf1 := hoe.frozen t
          have hf2 := hoe.frozen (t + m)
          have ho1 := hoe.at_ t (by omega)
          have ho2 := hoe.at_ (t + m) (by omega)
          have hne1 : ¬ D = w3.heap.size := by have := hDt.lt; omega
          have hne3 : ¬ gy = w3.heap.size := by have := (hve3.lt gy rfl).2; omega
          have hne2 : ¬ b = w3.heap.size := by have := hDt.fld.lt; omega
          have hmx : Tryz.prog.follows .mixedOrders = true := by kernel_rfl
          go_wp2
          go_quiet ((go_at_call 74; exact Calls.quiet_of (HMUL.out _ (by exact hcb))))
          go_wp2
          go_region_held3 (fun w' => w'.cell? ⟨D, 0, none⟩ = some (.pointer (some ⟨b, 0, none⟩)) ∧ w'.cell? ⟨gy, t, none⟩ = some (vi a0) ∧ w'.cell? ⟨b, 0, none⟩ = some (vi p)) (first | exact ⟨hcd, hc1, hcb⟩ | exact ⟨setCell_keep hcd hne1, setCell_keep hc1 hne3, setCell_keep hcb hne2⟩ | exact ⟨setCell_keep (setCell_keep hcd hne1) hne1, setCell_keep (setCell_keep hc1 hne3) hne3, setCell_keep (setCell_keep hcb hne2) hne2⟩) ((first | (go_at_call 133; refine (HADD.out _ (by exact hcb)).mono ?_; rintro e w' ⟨rfl, k3, rfl⟩) | (go_at_call 134; refine (HSUB.out _ (by exact hcb)).mono ?_; rintro e w' ⟨rfl, rfl⟩)))
          clear i4 i9 i5 i6 i7
          go_wp2_with fail
          refine (HNX.out _ (by exact setCell_keep (setCell_keep hcb hne2) hne2)).mono ?_
          rintro e w5 ⟨rfl, k5, rfl⟩
          go_wp2
          go_roundw
          case rel =>
            have h1 : OwnE (wr.drewN (nq + 1 + k3)) w.heap.size w3.heap.size (2 * m) L := hoe
            have h2 := (h1.store t U).store (t + m) V
            refine ⟨⟨t + 1, _, by omega, by go_num, rfl, h2, join_step hlt (by rw [hoe.1]; omega) HCO.out HU.out HV.out⟩, ?_⟩
            exact below_drewN (((below_drewN hbl (nq + 1 + k3)).setCell (p := ⟨w3.heap.size, t, none⟩) (Nat.le_refl _) _).setCell (p := ⟨w3.heap.size, t + m, none⟩) (Nat.le_refl _) _) k5
          case measure => simp [intOf]; omega
        · obtain rfl : t = m := by omega
          have hLd : L = dft R (2 * t) (els p xs) := join_done hoe.1 HCO.out
          have HLD := Lib.hid hLd
          clear hLd
          go_wp2
          go_ret
          have ho3 := hoe.2.more hb
          rw [← HN.out] at ho3
          refine ⟨_, fvs L, rfl, ho3, i64_fvs L hp2, ?_, fun h => by have := HN.out; omega, fun _ => ?_, hbw3.trans (hbl.mono hbw3.size)⟩
          · rw [els_fvs, HN.out]; exact HLD.out
          · rw [HN.out]; exact congrArg fvs HLD.out

/-- a power of two: what a polynomial is at the powers of a root -/
theorem spread_any (p S D b : Nat) [NeZero p] (n : Nat) (s : Fin p) : ∀ k, k ≤ 16 → SpreadSpec p S D b n s (2 ^ k)
  | 0, _ => spread_one p S D b n s
  | k + 1, hk => by
    have h1 : 2 ^ k ≤ 2 ^ 15 := Nat.pow_le_pow_right (by omega) (by omega)
    have h2 : 1 ≤ 2 ^ k := Nat.pow_pos (by omega)
    rw [Nat.pow_succ, Nat.mul_comm]
    refine spread_step p S D b n s (2 ^ k) h2 (by omega) ?_ (spread_any p S D b n s k (by omega))
    cases k with
    | zero => exact .inl rfl
    | succ k => exact .inr ⟨2 ^ k, by rw [Nat.pow_succ, Nat.mul_comm]⟩
end Go.Proofs.YtflkiddmakeabaaGreatDoor

/- The walk of poly.Divide. -/
set_option linter.unusedVariables false
namespace Go.Proofs.YtflkiddmakeabaaGreatDoor
open Go.RowKit Zp

/-- one's own slice of elements, its block and its capacity known -/
def OwnC {p : Nat} (wr : World) (base g n c : Nat) (L : List (Fin p)) : Prop := L.length = n ∧ Own wr base (.slice (some ⟨g, 0, none⟩) n c) (fvs L)
section
variable {p : Nat} [NeZero p] {wr w' : World} {base g n c : Nat} {L : List (Fin p)}
theorem OwnC.at_ (h : OwnC wr base g n c L) (j : Nat) (hj : j < n) : wr.cell? ⟨g, j, none⟩ = some (vi (fv (co L j))) := by
  have hl := h.1
  have := Own.at_ h.2 (by simp [hl]) j (by simp [hl]; omega)
  rw [this, co_of_lt (by omega), List.getElem_map]
omit [NeZero p] in
theorem OwnC.frozen (h : OwnC wr base g n c L) (j : Nat) : wr.frozen? ⟨g, j, none⟩ = false := Own.frozen_ h.2 (by simp [h.1]) j
omit [NeZero p] in
theorem OwnC.store (h : OwnC wr base g n c L) (j : Nat) (x : Fin p) : OwnC (wr.setCell ⟨g, j, none⟩ (vi (fv x))) base g n c (L.set j x) := by
  refine ⟨by simp [h.1], ?_⟩
  have := Own.store h.2 (by simp [h.1]) j (fv x)
  rwa [← List.map_set] at this
omit [NeZero p] in
theorem OwnC.lt (h : OwnC wr base g n c L) : base ≤ g ∧ g < wr.heap.size := h.2.lt g rfl
omit [NeZero p] in
theorem OwnC.far (h : OwnC wr base g n c L) {q : Addr} (hq : g ≠ q.block) (u : Value) : OwnC (wr.setCell q u) base g n c L := ⟨h.1, h.2.far (fun e => hq (by injection e)) u⟩
omit [NeZero p] in
theorem OwnC.drewN (h : OwnC wr base g n c L) (k : Nat) : OwnC (wr.drewN k) base g n c L := h
omit [NeZero p] in
theorem OwnC.below (h : OwnC wr base g n c L) (hb : Below wr.heap.size wr w') : OwnC w' base g n c L := ⟨h.1, h.2.below hb⟩
omit [NeZero p] in
theorem OwnC.alloc (h : OwnC wr base g n c L) (o : Obj) : OwnC (wr.alloc o) base g n c L := ⟨h.1, h.2.alloc' o⟩
omit [NeZero p] in
theorem OwnC.sl (h : OwnC wr base g n c L) : SL wr (some ⟨g, 0, none⟩) (fvs L) := by
  obtain ⟨A, c, h1, h2⟩ := h.2.len
  injection h1 with h1 _ _
  rw [h1]; exact h2
theorem OwnC.made (w : World) (base n : Nat) (hb : base ≤ w.heap.size) (hc : n * 8 ≤ 281474976710656) : OwnC (p := p) (w.alloc (.cells (zeros n) 3)) base w.heap.size n n (List.replicate n 0) := OwnE.made w base n hb hc
end

end Go.Proofs.YtflkiddmakeabaaGreatDoor

/- Arrays of eight ints in memory. -/
set_option linter.unusedVariables false
namespace Go.Proofs.YtflkiddmakeabaaGreatDoor
open Go.RowKit Zp

/-- eight ints -/
def st (x : Nat → Int) : Array Value := ((List.range 8).map fun i => vi (x i)).toArray
theorem st_size (x : Nat → Int) : (st x).size = 8 := by simp [st]
theorem st_get (x : Nat → Int) {i : Nat} (h : i < 8) : (st x)[i]? = some (vi (x i)) := by simp [st, h]
theorem st_congr {x y : Nat → Int} (h : ∀ i, i < 8 → x i = y i) : st x = st y := by
  unfold st
  congr 1
  exact List.map_congr_left fun i hi => by rw [h i (List.mem_range.1 hi)]
def upd (x : Nat → Int) (i : Nat) (n : Int) (j : Nat) : Int := if j = i then n else x j
theorem st_set (x : Nat → Int) (i : Nat) (n : Int) (h : i < 8) : (st x).setIfInBounds i (vi n) = st (upd x i n) := by
  apply Array.ext_getElem?
  intro j
  rw [Array.getElem?_setIfInBounds]
  by_cases hj : j < 8
  · rw [st_get _ hj, st_size]
    unfold upd
    by_cases e : i = j
    · subst e; rw [if_pos rfl, if_pos h, st_get _ hj, if_pos rfl]
    · rw [if_neg e, st_get _ hj, if_neg (fun e' => e e'.symm)]
  · have h1 : (st (upd x i n))[j]? = none := Array.getElem?_eq_none (by rw [st_size]; omega)
    have h2 : (st x)[j]? = none := Array.getElem?_eq_none (by rw [st_size]; omega)
    rw [h1, h2, if_neg (by omega)]
theorem st_one (x : Nat → Int) : (st x).all (·.oneCell') = true := by
  rw [Array.all_eq_true_iff_forall_mem]
  intro v hv
  simp only [st, List.mem_toArray, List.mem_map] at hv
  obtain ⟨i, _, rfl⟩ := hv
  rfl
/-- a matrix in memory, from a cell on -/
def MatAt (w : World) (b o : Nat) {p : Nat} (m : Nat → Nat → Fin p) : Prop := ∀ i j, i < 8 → j < 8 → w.cell? ⟨b, o + i * 8 + j, none⟩ = some (vi (fv (m i j)))
theorem MatAt.row {w : World} {b o p : Nat} {m : Nat → Nat → Fin p} (h : MatAt w b o m) {i : Nat} (hi : i < 8) : w.rangeAt b (o + i * 8) (st fun j => fv (m i j)).toList := fun j v hv => by
  have hj : j < 8 := by
    have := (List.getElem?_eq_some_iff.1 hv).1
    rw [Array.length_toList, st_size] at this
    exact this
  rw [Array.getElem?_toList, st_get _ hj] at hv
  injection hv with hv
  rw [← hv]
  exact h i j hi hj
theorem MatAt.keep {w w' : World} {b o p : Nat} {m : Nat → Nat → Fin p} (h : MatAt w b o m) (hk : ∀ q : Addr, q.block = b → w'.cell? q = w.cell? q) : MatAt w' b o m := fun i j hi hj => (hk _ rfl).trans (h i j hi hj)

theorem info8 (x : Nat → Int) : (Tryz.prog.info? 153).map (·.size) = some (st x).size := by rw [st_size]; kernel_rfl
theorem st_lit (x : Nat → Int) : st x = #[vi (x 0), vi (x 1), vi (x 2), vi (x 3), vi (x 4), vi (x 5), vi (x 6), vi (x 7)] := rfl
theorem st_zero : st (fun _ => 0) = #[vi 0, vi 0, vi 0, vi 0, vi 0, vi 0, vi 0, vi 0] := rfl
theorem below_setRow8 {B g : Nat} {w0 w : World} (hb : Below B w0 w) (hg : B ≤ g) (cs : Array Value) : Below B w0 (w.setRow g cs) :=
  ⟨hb.os, hb.tape, hb.output, by rw [setRow_size]; exact hb.size, fun i hi => (setRow_other w g i cs (by omega)).trans (hb.block i hi)⟩
/-- what the first i rows make -/
def apTo {p : Nat} [NeZero p] (m : Nat → Nat → Fin p) (X : Nat → Fin p) (i k : Nat) : Int := if k < i then fv (ap m X k) else 0
/-- .. and j places of the next one -/
def apMid {p : Nat} [NeZero p] (m : Nat → Nat → Fin p) (X : Nat → Fin p) (i j k : Nat) : Int := if k < i then fv (ap m X k) else if k = i then fv (sumT j fun l => m i l * X l) else 0
theorem apMid_start {p : Nat} [NeZero p] (m : Nat → Nat → Fin p) (X : Nat → Fin p) (i : Nat) : st (apMid m X i 0) = st (apTo m X i) := st_congr fun k _ => by
  unfold apMid apTo
  split
  · rfl
  · split
    · rw [sumT, fv_zero]
    · rfl
theorem apMid_done {p : Nat} [NeZero p] (m : Nat → Nat → Fin p) (X : Nat → Fin p) (i : Nat) : st (apMid m X i 8) = st (apTo m X (i + 1)) := st_congr fun k _ => by
  unfold apMid apTo
  by_cases h1 : k < i
  · rw [if_pos h1, if_pos (by omega)]
  · rw [if_neg h1]
    by_cases h2 : k = i
    · rw [if_pos h2, if_pos (by omega), h2]; rfl
    · rw [if_neg h2, if_neg (by omega)]
theorem apMid_step {p : Nat} [NeZero p] (m : Nat → Nat → Fin p) (X : Nat → Fin p) (i j : Nat) : st (upd (apMid m X i j) i (fv (sumT j (fun l => m i l * X l) + m i j * X j))) = st (apMid m X i (j + 1)) := st_congr fun k _ => by
  unfold upd apMid
  by_cases h2 : k = i
  · rw [if_pos h2, if_neg (by omega), if_pos h2, sumT_succ]
  · rw [if_neg h2]
    by_cases h1 : k < i
    · rw [if_pos h1, if_pos h1]
    · rw [if_neg h1, if_neg h2, if_neg h1, if_neg h2]
theorem apMid_at {p : Nat} [NeZero p] (m : Nat → Nat → Fin p) (X : Nat → Fin p) (i j : Nat) : apMid m X i j i = fv (sumT j fun l => m i l * X l) := by unfold apMid; rw [if_neg (by omega), if_pos rfl]
/-- a place of an array by a number -/
theorem index8 (x : Nat → Int) {j : Nat} (hj : j < 8) (W : World) : (Instr.index 153 (.agg #[vi (x 0), vi (x 1), vi (x 2), vi (x 3), vi (x 4), vi (x 5), vi (x 6), vi (x 7)]) (vi j)).run Tryz.prog W = .ok (vi (x j)) W :=
  match j, hj with
  | 0, _ => by kernel_rfl
  | 1, _ => by kernel_rfl
  | 2, _ => by kernel_rfl
  | 3, _ => by kernel_rfl
  | 4, _ => by kernel_rfl
  | 5, _ => by kernel_rfl
  | 6, _ => by kernel_rfl
  | 7, _ => by kernel_rfl
  | n + 8, h => absurd h (by omega)
theorem Blk.at8 {w : World} {g : Nat} {t : TypeId} {x : Nat → Int} (h : Blk w g t (st x)) {i : Nat} (hi : i < 8) : w.cell? ⟨g, i, none⟩ = some (vi (x i)) := by rw [h.cell, st_get _ hi]
theorem Blk.set8 {w : World} {g : Nat} {t : TypeId} {x : Nat → Int} (h : Blk w g t (st x)) {i : Nat} (hi : i < 8) (n : Int) : Blk (w.setCell ⟨g, i, none⟩ (vi n)) g t (st (upd x i n)) := by
  have := h.set_ i (vi n)
  rwa [st_set _ _ _ hi] at this
def TimesIn {p : Nat} [NeZero p] (m : Nat → Nat → Fin p) (x : Nat → Int) (w : World) (i : Nat) (t : Value) (wr : World) : Prop :=
  ∃ j : Nat, j ≤ 8 ∧ t = vi j ∧ Blk wr w.heap.size 153 (st x) ∧ Blk wr (w.heap.size + 1) 153 (st fun _ => 0) ∧ Blk wr (w.heap.size + 1 + 1) 153 (st (apMid m (fun j => el p (x j)) i j)) ∧ Below w.heap.size w wr
def TimesRel {p : Nat} [NeZero p] (m : Nat → Nat → Fin p) (x : Nat → Int) (w : World) (t : Value) (wr : World) : Prop :=
  ∃ i : Nat, i ≤ 8 ∧ t = vi i ∧ Blk wr w.heap.size 153 (st x) ∧ Blk wr (w.heap.size + 1) 153 (st fun _ => 0) ∧ Blk wr (w.heap.size + 1 + 1) 153 (st (apTo m (fun j => el p (x j)) i)) ∧ Below w.heap.size w wr
set_option maxRecDepth 100000 in
set_option maxHeartbeats 4000000 in
theorem times_any (p S b s bm om : Nat) [NeZero p] (m : Nat → Nat → Fin p) (x : Nat → Int) (hx : ∀ i, I64 (x i)) (w : World) (F : Fld w S b p) (hs0 : w.cell? ⟨s, 0, none⟩ = some (.pointer (some ⟨b, 0, none⟩))) (hm : MatAt w bm om m) :
    Calls Tryz.prog 181 #[.pointer (some ⟨s, 0, none⟩), .pointer (some ⟨bm, om, none⟩), .agg (st x)] w fun e w' => e = .returned (.agg (st fun i => fv (ap m (fun j => el p (x j)) i))) ∧ Below w.heap.size w w' := by
  have hp2 := F.max
  have hcb := F.c0
  have hbl := block_lt_of_cell hcb
  have hsl := block_lt_of_cell hs0
  have hml : bm < w.heap.size := block_lt_of_cell (hm 0 0 (by omega) (by omega))
  have hb1 : Below w.heap.size w (w.alloc (.cells (st x) 153)) := (Below.refl _ _).alloc (Nat.le_refl _) _
  have hb2 := hb1.alloc hb1.size (.cells (st fun _ => 0) 153)
  have hb3 := hb2.alloc hb2.size (.cells (st fun _ => 0) 153)
  have hB0 := ((Blk.new w 153 (st x)).alloc (.cells (st fun _ => 0) 153)).alloc (.cells (st fun _ => 0) 153)
  have hB1 := (Blk.new (w.alloc (.cells (st x) 153)) 153 (st fun _ => 0)).alloc (.cells (st fun _ => 0) 153)
  have hB2 := Blk.new ((w.alloc (.cells (st x) 153)).alloc (.cells (st fun _ => 0) 153)) 153 (st fun _ => 0)
  rw [World.size_alloc] at hB1 hB2
  rw [World.size_alloc] at hB2
  have hB2' : st (fun _ => 0) = st (apTo m (fun j => el p (x j)) 0) := st_congr fun i _ => by unfold apTo; rw [if_neg (by omega)]
  go_enter Tryz.func181, Tryz.ntmps181
  go_wp2
  go_loopw [14] (fun t wr => TimesRel m x w t wr) (fun t _ => 8 - (intOf t).toNat)
  case atStart => exact ⟨0, by omega, rfl, hB0, hB1, by rw [← hB2']; exact hB2, hb3⟩
  case round =>
    obtain ⟨i, hi, rfl, h0, h1, h2, hb⟩ := hrel
    clear hB0 hB1 hB2 hb1 hb2 hb3 hB2'
    by_cases hi8 : i < 8
    · have hmr : MatAt wr bm om m := hm.keep fun q hq => hb.cell (by rw [hq]; exact hml)
      have hr0 : wr.cell? ⟨bm, om + i * 8, none⟩ = some (vi (fv (m i 0))) := hmr i 0 hi8 (by omega)
      have hr1 := hmr i 1 hi8 (by omega)
      have hr2 := hmr i 2 hi8 (by omega)
      have hr3 := hmr i 3 hi8 (by omega)
      have hr4 := hmr i 4 hi8 (by omega)
      have hr5 := hmr i 5 hi8 (by omega)
      have hr6 := hmr i 6 hi8 (by omega)
      have hr7 := hmr i 7 hi8 (by omega)
      have i1 : (0 : Int) ≤ (i : Int) := by omega
      have i2 : (i : Int) < 8 := by omega
      go_wp2
      go_region_held3 (fun w' => w'.cell? ⟨bm, om + i * 8, none⟩ = some (vi (fv (m i 0))) ∧ w'.cell? ⟨bm, om + i * 8 + 1, none⟩ = some (vi (fv (m i 1))) ∧ w'.cell? ⟨bm, om + i * 8 + 2, none⟩ = some (vi (fv (m i 2))) ∧ w'.cell? ⟨bm, om + i * 8 + 3, none⟩ = some (vi (fv (m i 3))) ∧ w'.cell? ⟨bm, om + i * 8 + 4, none⟩ = some (vi (fv (m i 4))) ∧ w'.cell? ⟨bm, om + i * 8 + 5, none⟩ = some (vi (fv (m i 5))) ∧ w'.cell? ⟨bm, om + i * 8 + 6, none⟩ = some (vi (fv (m i 6))) ∧ w'.cell? ⟨bm, om + i * 8 + 7, none⟩ = some (vi (fv (m i 7)))) (first | exact ⟨hr0, hr1, hr2, hr3, hr4, hr5, hr6, hr7⟩ | go_keep) (fail)
      have hba : Below wr.heap.size wr (wr.alloc (.cells (st fun j => fv (m i j)) 153)).drew := below_drewN ((Below.refl _ _).alloc (Nat.le_refl _) _) 1
      have g0 := h0.below hba h0.lt
      have g1 := h1.below hba h1.lt
      have g2 := h2.below hba h2.lt
      have gb := hb.trans (hba.mono hb.size)
      have hix := fun (j : Nat) (hj : j < 8) (W : World) => index8 (fun j => fv (m i j)) hj W
      rw [← apMid_start] at g2
      have hnw : Blk (wr.alloc (.cells (st fun j => fv (m i j)) 153)).drew wr.heap.size 153 (st fun j => fv (m i j)) := Blk.new _ _ _
      go_wp2
      go_loopw [21] (fun t wr => TimesIn m x w i t wr) (fun t _ => 8 - (intOf t).toNat)
      case atStart => exact ⟨0, by omega, rfl, g0, g1, g2, gb⟩
      case round =>
        obtain ⟨j, hj, rfl, h0, h1, h2, hb⟩ := hrel
        by_cases hj8 : j < 8
        · have hcr := (F.below hb F.le).c0
          have hsr : wr.cell? ⟨s, 0, none⟩ = some (.pointer (some ⟨b, 0, none⟩)) := (hb.cell (p := ⟨s, 0, none⟩) hsl).trans hs0
          have cX := h0.at8 hj8
          have cO := h2.at8 hi8
          have fO := h2.frozen i
          rw [apMid_at] at cO
          have hst := apMid_step m (fun j => el p (x j)) i j
          have hxj := hx j
          have hixj := fun W => hix j hj8 W
          have hset := fun (W : World) (u : Fin p) (h : Blk W (w.heap.size + 1 + 1) 153 (st (apMid m (fun j => el p (x j)) i j))) => h.set8 hi8 (fv u)
          obtain ⟨A, hA⟩ : ∃ A, A = sumT j fun l => m i l * el p (x l) := ⟨_, rfl⟩
          rw [← hA] at cO hst
          obtain ⟨T, hT⟩ : ∃ T, T = m i j * el p (x j) := ⟨_, rfl⟩
          obtain ⟨U, hU⟩ : ∃ U, U = A + T := ⟨_, rfl⟩
          rw [← hT, ← hU] at hst
          have hmul := fun W hcW => mul_any p hp2 b (fv (m i j)) (x j) (i64_fv _ hp2) hxj W hcW
          rw [el_fv, ← hT] at hmul
          have hadd := fun W hcW => add_any p hp2 b (fv A) (fv T) (i64_fv _ hp2) (i64_fv _ hp2) W hcW
          rw [el_fv, el_fv, ← hU] at hadd
          have HMUL := Lib.hid hmul
          have HADD := Lib.hid hadd
          have HST := Lib.hid hst
          have HSET := Lib.hid hset
          have j1 : (0 : Int) ≤ (j : Int) := by omega
          have j2 : (j : Int) < 8 := by omega
          have hmx : Tryz.prog.follows .mixedOrders = true := by kernel_rfl
          clear hmul hadd hst hset hA hT hU hxj
          go_wp2
          refine wp_region_quiet_tail 19 hmx (by kernel_rfl) ?_
          simp only [List.take_succ_cons, List.take_zero, List.drop_succ_cons, List.drop_zero]
          repeat (quiet_step (first | (go_at_call 74; exact Calls.quiet_of (HMUL.out _ (by exact hcr))) | (go_at_call 133; exact Calls.quiet_of (HADD.out _ (by exact hcr)))))
          refine wpQuiet_nil ?_
          intro _ hw'
          obtain ⟨nq1, hw''⟩ := hw'
          subst hw''
          have q0 := (h0.drewN nq1).far (p := ⟨w.heap.size + 1 + 1, i, none⟩) (by show w.heap.size ≠ w.heap.size + 1 + 1; omega) (vi (fv U))
          have q1 := (h1.drewN nq1).far (p := ⟨w.heap.size + 1 + 1, i, none⟩) (by show w.heap.size + 1 ≠ w.heap.size + 1 + 1; omega) (vi (fv U))
          have q2 := HSET.out _ U (h2.drewN nq1)
          have qb := (below_drewN hb nq1).setCell (p := ⟨w.heap.size + 1 + 1, i, none⟩) (by show w.heap.size ≤ w.heap.size + 1 + 1; omega) (vi (fv U))
          rw [HST.out] at q2
          go_wp2
          go_roundw
          case rel => exact ⟨j + 1, by omega, by go_num, q0, q1, q2, qb⟩
          case measure => simp [intOf]; omega
        · have ej : j = 8 := by omega
          rw [ej, apMid_done] at h2
          have t1 : ¬ (j : Int) < 8 := by omega
          clear ej
          go_wp2
          go_roundw
          case rel => exact ⟨i + 1, by omega, by go_num, h0, h1, h2, hb⟩
          case measure => simp [intOf]; omega
    · have ei : i = 8 := by omega
      have hres : st (apTo m (fun j => el p (x j)) i) = st fun k => fv (ap m (fun j => el p (x j)) k) := st_congr fun k hk => by unfold apTo; rw [if_pos (by omega)]
      rw [hres] at h2
      obtain ⟨R, hR⟩ : ∃ R : Nat → Int, R = fun k => fv (ap m (fun j => el p (x j)) k) := ⟨_, rfl⟩
      rw [← hR] at h2
      have HR := Lib.hid hR
      clear hR
      have t1 : ¬ (i : Int) < 8 := by omega
      clear ei hres
      go_wp2_with (first | (refine wpList_load_row rfl 153 _ rfl (w.heap.size + 1 + 1) rfl _ _ _ _ h2 Tryz.underlying153 rfl (info8 _) ?_) | (refine wpList_store_row rfl 153 _ _ rfl (w.heap.size + 1) _ rfl rfl _ _ h1 (info8 _) (by rw [st_size, st_size]) (st_one _) ?_))
      have hB1 : Blk (wr.setRow (w.heap.size + 1) (st R)) (w.heap.size + 1) 153 (st R) := setRow_heap _ _ _ _ _ _ h1
      refine bodyPost_ret (v := .agg (st R)) (results_cell_row (P := Tryz.prog) (by rfl) _ _ (w.heap.size + 1) _ _ _ _ (by rfl) hB1 Tryz.underlying153 rfl (info8 _)) rfl ⟨by rw [HR.out], below_setRow8 hb (by omega) _⟩
end Go.Proofs.YtflkiddmakeabaaGreatDoor

/- The walk of sponge.undone. -/
set_option linter.unusedVariables false
set_option linter.unusedSimpArgs false
namespace Go.Proofs.YtflkiddmakeabaaGreatDoor
open Go.RowKit Zp

/-- eight rows of eight elements -/
def mt {p : Nat} (m : Nat → Nat → Fin p) : Array Value := ((List.range 64).map fun t => vi (fv (m (t / 8) (t % 8)))).toArray
section
variable {p : Nat}
theorem mt_size (m : Nat → Nat → Fin p) : (mt m).size = 64 := by simp [mt]
theorem mt_get (m : Nat → Nat → Fin p) {i j : Nat} (hi : i < 8) (hj : j < 8) : (mt m)[i * 8 + j]? = some (vi (fv (m i j))) := by
  have h : i * 8 + j < 64 := by omega
  have h1 : (i * 8 + j) / 8 = i := by omega
  have h2 : (i * 8 + j) % 8 = j := by omega
  simp [mt, h, h1, h2]
theorem mt_get' (m : Nat → Nat → Fin p) {t : Nat} (h : t < 64) : (mt m)[t]? = some (vi (fv (m (t / 8) (t % 8)))) := by simp [mt, h]
theorem mt_congr {m m' : Nat → Nat → Fin p} (h : ∀ i j, i < 8 → j < 8 → m i j = m' i j) : mt m = mt m' := by
  unfold mt
  congr 1
  exact List.map_congr_left fun t ht => by
    have := List.mem_range.1 ht
    rw [h (t / 8) (t % 8) (by omega) (by omega)]
def updM (m : Nat → Nat → Fin p) (i j : Nat) (x : Fin p) (a b : Nat) : Fin p := if a = i ∧ b = j then x else m a b
theorem mt_set (m : Nat → Nat → Fin p) {i j : Nat} (x : Fin p) (hi : i < 8) (hj : j < 8) : (mt m).setIfInBounds (i * 8 + j) (vi (fv x)) = mt (updM m i j x) := by
  apply Array.ext_getElem?
  intro t
  rw [Array.getElem?_setIfInBounds]
  by_cases ht : t < 64
  · rw [mt_get' _ ht, mt_size]
    unfold updM
    by_cases e : i * 8 + j = t
    · rw [if_pos e, if_pos (show i * 8 + j < 64 by omega), mt_get' _ ht, if_pos (show t / 8 = i ∧ t % 8 = j from ⟨by omega, by omega⟩)]
    · rw [if_neg e, mt_get' _ ht, if_neg (by omega)]
  · have h1 : (mt (updM m i j x))[t]? = none := Array.getElem?_eq_none (by rw [mt_size]; omega)
    have h2 : (mt m)[t]? = none := Array.getElem?_eq_none (by rw [mt_size]; omega)
    rw [h1, h2, if_neg (by omega)]
theorem mt_one (m : Nat → Nat → Fin p) : (mt m).all (·.oneCell') = true := by
  rw [Array.all_eq_true_iff_forall_mem]
  intro v hv
  simp only [mt, List.mem_toArray, List.mem_map] at hv
  obtain ⟨i, _, rfl⟩ := hv
  rfl
theorem info64 (m : Nat → Nat → Fin p) : (Tryz.prog.info? 154).map (·.size) = some (mt m).size := by rw [mt_size]; kernel_rfl
/-- a matrix that lies in a block of its own -/
def MBlk (w : World) (g : Nat) (m : Nat → Nat → Fin p) : Prop := Blk w g 154 (mt m)
variable {w w' : World} {g : Nat} {m : Nat → Nat → Fin p}
theorem MBlk.at_ (h : MBlk w g m) {i j : Nat} (hi : i < 8) (hj : j < 8) : w.cell? ⟨g, i * 8 + j, none⟩ = some (vi (fv (m i j))) := by rw [Blk.cell h, mt_get _ hi hj]
theorem MBlk.frozen (h : MBlk w g m) (o : Nat) : w.frozen? ⟨g, o, none⟩ = false := Blk.frozen h o
theorem MBlk.set (h : MBlk w g m) {i j : Nat} (hi : i < 8) (hj : j < 8) (x : Fin p) : MBlk (w.setCell ⟨g, i * 8 + j, none⟩ (vi (fv x))) g (updM m i j x) := by
  have := Blk.set_ h (i * 8 + j) (vi (fv x))
  rwa [mt_set _ _ hi hj] at this
theorem MBlk.congr {m' : Nat → Nat → Fin p} (h : MBlk w g m) (e : ∀ i j, i < 8 → j < 8 → m i j = m' i j) : MBlk w g m' := by
  unfold MBlk at *
  rwa [← mt_congr e]
theorem MBlk.below (h : MBlk w g m) {B : Nat} (hb : Below B w w') (hg : g < B) : MBlk w' g m := Blk.below h hb hg
theorem MBlk.drewN (h : MBlk w g m) (n : Nat) : MBlk (w.drewN n) g m := h
theorem MBlk.far (h : MBlk w g m) {q : Addr} (hq : g ≠ q.block) (u : Value) : MBlk (w.setCell q u) g m := Blk.far h hq u
theorem MBlk.matAt (h : MBlk w g m) : MatAt w g 0 m := fun i j hi hj => by rw [Nat.zero_add]; exact h.at_ hi hj
end

/-- a row of it is laid anew -/
def rowM {p : Nat} (m : Nat → Nat → Fin p) (i : Nat) (x : Nat → Fin p) (a b : Nat) : Fin p := if a = i then x b else m a b
theorem MBlk.setRow {p : Nat} {w : World} {g : Nat} {m : Nat → Nat → Fin p} (h : MBlk w g m) {i : Nat} (hi : i < 8) (x : Nat → Fin p) :
    MBlk (w.setCells g (i * 8) [vi (fv (x 0)), vi (fv (x 1)), vi (fv (x 2)), vi (fv (x 3)), vi (fv (x 4)), vi (fv (x 5)), vi (fv (x 6)), vi (fv (x 7))]) g (rowM m i x) := by
  have h8 := (((((((h.set hi (show 0 < 8 by omega) (x 0)).set hi (show 1 < 8 by omega) (x 1)).set hi (show 2 < 8 by omega) (x 2)).set hi (show 3 < 8 by omega) (x 3)).set hi (show 4 < 8 by omega) (x 4)).set hi (show 5 < 8 by omega) (x 5)).set hi (show 6 < 8 by omega) (x 6)).set hi (show 7 < 8 by omega) (x 7)
  refine MBlk.congr h8 fun a b ha hb => ?_
  unfold rowM updM
  by_cases e : a = i
  · rw [if_pos e]
    match b, hb with
    | 0, _ => simp [e]
    | 1, _ => simp [e]
    | 2, _ => simp [e]
    | 3, _ => simp [e]
    | 4, _ => simp [e]
    | 5, _ => simp [e]
    | 6, _ => simp [e]
    | 7, _ => simp [e]
    | n + 8, h => omega
  · rw [if_neg e]
    simp [e]
theorem MBlk.there {p : Nat} {w : World} {g : Nat} {m : Nat → Nat → Fin p} (h : MBlk w g m) {i : Nat} (hi : i < 8) : w.there g (i * 8) 8 := fun j hj => ⟨by rw [h.at_ hi hj]; rfl, h.frozen _⟩
theorem below_setCells {B : Nat} {w0 : World} (b : Nat) (hb : B ≤ b) : ∀ (vs : List Value) (o : Nat) (w : World), Below B w0 w → Below B w0 (w.setCells b o vs)
  | [], _, _, h => h
  | v :: r, o, w, h => by
    rw [World.setCells]
    exact below_setCells b hb r (o + 1) _ (h.setCell (p := ⟨b, o, none⟩) hb v)
theorem MBlk.farCells {p : Nat} {g b : Nat} {m : Nat → Nat → Fin p} (hne : g ≠ b) : ∀ (vs : List Value) (o : Nat) (w : World), MBlk w g m → MBlk (w.setCells b o vs) g m
  | [], _, _, h => h
  | v :: r, o, w, h => by
    rw [World.setCells]
    exact MBlk.farCells hne r (o + 1) _ (h.far (q := ⟨b, o, none⟩) hne v)
theorem rowM_swap {p : Nat} (m : Nat → Nat → Fin p) (i k a b : Nat) : rowM (rowM m i (m k)) k (m i) a b = swapR m i k a b := by
  unfold rowM swapR
  by_cases h1 : a = i
  · by_cases h2 : a = k
    · rw [if_pos h2, if_pos h1, ← h1, ← h2]
    · rw [if_neg h2, if_pos h1, if_pos h1]
  · by_cases h2 : a = k
    · rw [if_pos h2, if_neg h1, if_pos h2]
    · rw [if_neg h2, if_neg h1, if_neg h1, if_neg h2]
/-- rows i and k are swapped, as four steps -/
theorem swap_run {p : Nat} (w : World) (g : Nat) (m : Nat → Nat → Fin p) (h : MBlk w g m) {i k : Nat} (hi : i < 8) (hk : k < 8) : ∃ W1 W2 : World,
    W1 = w.drew.setCells g (i * 8) (st fun j => fv (m k j)).toList ∧ W2 = W1.setCells g (k * 8) (st fun j => fv (m i j)).toList ∧
    w.drew.rangeAt g (k * 8) (st fun j => fv (m k j)).toList ∧ w.drew.rangeAt g (i * 8) (st fun j => fv (m i j)).toList ∧
    w.drew.there g (i * 8) (st fun j => fv (m k j)).size ∧ W1.there g (k * 8) (st fun j => fv (m i j)).size ∧
    MBlk W2 g (swapR m i k) ∧ (∀ B W, B ≤ g → Below B W w → Below B W W2) ∧ ∀ g' m', g' ≠ g → MBlk w g' m' → MBlk W2 g' (p := p) m' := by
  have hw : MBlk w.drew g m := h.drewN 1
  have L : ∀ a, a < 8 → w.drew.rangeAt g (a * 8) (st fun j => fv (m a j)).toList := fun a ha => by
    have hr := MatAt.row hw.matAt ha
    rwa [Nat.zero_add] at hr
  have H1 : MBlk (w.drew.setCells g (i * 8) (st fun j => fv (m k j)).toList) g (rowM m i (m k)) := hw.setRow hi (m k)
  have H2 := H1.setRow hk (m i)
  exact ⟨_, _, rfl, rfl, L k hk, L i hi, by rw [st_size]; exact hw.there hi, by rw [st_size]; exact H1.there hk, H2.congr fun a b _ _ => rowM_swap m i k a b, fun B W hB hb => below_setCells g hB _ _ _ (below_setCells g hB _ _ _ (below_drewN hb 1)),
    fun g' m' hne h' => MBlk.farCells hne _ _ _ (MBlk.farCells hne _ _ _ (h'.drewN 1))⟩
theorem wp_fixed {P : Program} {c : Code} {Q : Exit → Act → World → Prop} {a : Act} {w : World} (A : Act) (W : World) (h : c.wp P (fun e a' w' => e = .normal ∧ w' = W ∧ a' = A) a w) (k : Q .normal A W) : c.wp P Q a w :=
  Code.wp_mono (fun e a' w' h => by obtain ⟨rfl, rfl, rfl⟩ := h; exact k) h
/-- the code ends as it should, in one state, in a world of a kind -/
def onlyN (A : Act) (R : World → Prop) : Exit → Act → World → Prop
  | .normal, a, w => R w ∧ a = A
  | _, _, _ => False
theorem wp_fixedR {P : Program} {c : Code} {Q : Exit → Act → World → Prop} {a : Act} {w : World} (A : Act) (R : World → Prop) (h : c.wp P (onlyN A R) a w) (k : ∀ W, R W → Q .normal A W) : c.wp P Q a w :=
  Code.wp_mono (fun e a' w' h => by
    cases e with
    | normal => obtain ⟨hR, rfl⟩ := h; exact k _ hR
    | _ => exact h.elim) h
theorem wpAny_take_at {ops : Array Oper} {Q : Exit → Act → World → Prop} {md : Region.Mode} {i d : Nat} {oi : Oper} {v : Value} {fuel : Nat} {listed : Array Bool} {a : Act} {w : World} (hi : ops[i]? = some oi) (hd : oi.dst = some d)
    (hs : Region.noSelect ops = true) (hf : Region.free md ops listed i = true) (hr : (Region.ready md ops listed).contains i = true)
    (hQ : ∀ c a w, Q (.panic c) (a.put (some d) v) w → Q (.panic c) a w) (hy : Yields Tryz.prog ops oi v a)
    (h : wpAny Tryz.prog md ops Q fuel (listed.setIfInBounds i true) (a.put (some d) v) w) : wpAny Tryz.prog md ops Q (fuel + 1) listed a w := by
  rw [← hd] at h hQ
  exact wpAny_take hi hs hf hr hQ hy h
theorem step_load8 {ops : Array Oper} {o : Oper} {a : Act} {w : World} {K : Act → World → Prop} {Q : Exit → Act → World → Prop} {E : Prop} {d : Nat} {x : Operand} (hg : o.guard = none) (hd : o.dst = some d) (ho : o.op = .load 153 x)
    {b t : Nat} {c : Nat → Int} (hx : a.eval x = .pointer (some ⟨b, t, none⟩)) (hc : w.rangeAt b t (st c).toList) (h : K (a.put (some d) (.agg (st c))) w) :
    if Region.wanted o (yielded ops a.tmps) = true then Oper.wp Tryz.prog o a w K Q else E := by
  rw [if_pos (by simp [Region.wanted, hg])]
  refine wp_load_mid 153 x ho b t hx _ _ hc Tryz.underlying153 rfl (by rw [Array.length_toList]; exact info8 _) ?_
  rw [Array.toArray_toList, hd]
  exact h
theorem step_store8 {ops : Array Oper} {o : Oper} {a : Act} {w : World} {K : Act → World → Prop} {Q : Exit → Act → World → Prop} {E : Prop} {x v : Operand} (hg : o.guard = none) (hd : o.dst = none) (ho : o.op = .store 153 x v)
    {b t : Nat} {c : Nat → Int} (hx : a.eval x = .pointer (some ⟨b, t, none⟩)) (hv : a.eval v = .agg (st c)) (hc : w.there b t (st c).size) (h : K a (w.setCells b t (st c).toList)) :
    if Region.wanted o (yielded ops a.tmps) = true then Oper.wp Tryz.prog o a w K Q else E := by
  rw [if_pos (by simp [Region.wanted, hg])]
  refine wp_store_mid 153 x v ho b t (st c) hx hv hc (info8 _) (st_one _) ?_
  rw [hd]
  exact h
/-- j places of a row times an element -/
def pscl {p : Nat} (m : Nat → Nat → Fin p) (i : Nat) (c : Fin p) (j a b : Nat) : Fin p := if a = i ∧ b < j then m a b * c else m a b
theorem pscl_zero {p : Nat} (m : Nat → Nat → Fin p) (i : Nat) (c : Fin p) (a b : Nat) : m a b = pscl m i c 0 a b := by unfold pscl; rw [if_neg (by omega)]
theorem pscl_at {p : Nat} (m : Nat → Nat → Fin p) (i : Nat) (c : Fin p) (j : Nat) : pscl m i c j i j = m i j := by unfold pscl; rw [if_neg (by omega)]
theorem pscl_step {p : Nat} (m : Nat → Nat → Fin p) (i : Nat) (c : Fin p) (j a b : Nat) : updM (pscl m i c j) i j (m i j * c) a b = pscl m i c (j + 1) a b := by
  unfold updM pscl
  by_cases h : a = i ∧ b = j
  · rw [if_pos h, if_pos ⟨h.1, by omega⟩, h.1, h.2]
  · rw [if_neg h]
    by_cases h1 : a = i ∧ b < j
    · rw [if_pos h1, if_pos ⟨h1.1, by omega⟩]
    · rw [if_neg h1, if_neg (by omega)]
theorem pscl_done {p : Nat} (m : Nat → Nat → Fin p) (i : Nat) (c : Fin p) (a b : Nat) (hb : b < 8) : pscl m i c 8 a b = sclR m i c a b := by
  unfold pscl sclR
  by_cases h : a = i
  · rw [if_pos ⟨h, hb⟩, if_pos h]
  · rw [if_neg (by omega), if_neg h]
/-- the rows ahead of r, but for i, and j places of r, are less a multiple of the row i -/
def pelm {p : Nat} [NeZero p] (m : Nat → Nat → Fin p) (v : Nat → Fin p) (i r j a b : Nat) : Fin p := if (a < r ∧ a ≠ i) ∨ (a = r ∧ r ≠ i ∧ b < j) then m a b - v a * m i b else m a b
section
variable {p : Nat} [NeZero p] (m : Nat → Nat → Fin p) (v : Nat → Fin p) (i r j a b : Nat)
theorem pelm_zero : m a b = pelm m v i 0 0 a b := by unfold pelm; rw [if_neg (by omega)]
theorem pelm_row (h : r ≠ i) : pelm m v i r j r j = m r j := by unfold pelm; rw [if_neg (by omega)]
theorem pelm_i : pelm m v i r j i b = m i b := by unfold pelm; rw [if_neg (by omega)]
theorem pelm_head : pelm m v i r 0 r b = m r b := by unfold pelm; rw [if_neg (by omega)]
theorem pelm_step (h : r ≠ i) : updM (pelm m v i r j) r j (m r j - v r * m i j) a b = pelm m v i r (j + 1) a b := by
  unfold updM pelm
  by_cases h0 : a = r ∧ b = j
  · rw [if_pos h0, if_pos (.inr ⟨h0.1, h, by omega⟩), h0.1, h0.2]
  · rw [if_neg h0]
    by_cases h1 : (a < r ∧ a ≠ i) ∨ (a = r ∧ r ≠ i ∧ b < j)
    · rw [if_pos h1, if_pos (by omega)]
    · rw [if_neg h1, if_neg (by omega)]
theorem pelm_next (h : r ≠ i) (hb : b < 8) : pelm m v i r 8 a b = pelm m v i (r + 1) 0 a b := by
  unfold pelm
  by_cases h1 : (a < r ∧ a ≠ i) ∨ (a = r ∧ r ≠ i ∧ b < 8)
  · rw [if_pos h1, if_pos (by omega)]
  · rw [if_neg h1, if_neg (by omega)]
theorem pelm_skip : pelm m v r r 0 a b = pelm m v r (r + 1) 0 a b := by
  unfold pelm
  by_cases h1 : (a < r ∧ a ≠ r) ∨ (a = r ∧ r ≠ r ∧ b < 0)
  · rw [if_pos h1, if_pos (by omega)]
  · rw [if_neg h1, if_neg (by omega)]
theorem pelm_done (ha : a < 8) : pelm m v i 8 0 a b = subR m v i a b := by
  unfold pelm subR
  by_cases h : a = i
  · rw [if_neg (by omega), if_pos h]
  · rw [if_pos (.inl ⟨ha, h⟩), if_neg h]
end
def diagM {p : Nat} [NeZero p] (i a b : Nat) : Fin p := if a = b ∧ a < i then 1 else 0

/-- what a loop of undone keeps: three matrices in their blocks -/
def Mats {p : Nat} [NeZero p] (w : World) (m out : Nat → Nat → Fin p) (wr : World) : Prop :=
  MBlk wr w.heap.size m ∧ MBlk wr (w.heap.size + 1) (fun _ _ => (0 : Fin p)) ∧ MBlk wr (w.heap.size + 1 + 1) out ∧ Below w.heap.size w wr
set_option maxRecDepth 100000 in
set_option maxHeartbeats 8000000 in
theorem undone_any (p S b : Nat) [NeZero p] (M : Nat → Nat → Fin p) (hM : Inj M) (w : World) (F : Fld w S b p) :
    Calls Tryz.prog 123 #[.pointer (some ⟨b, 0, none⟩), .agg (mt M)] w fun e w' => (∃ m out : Nat → Nat → Fin p, Undo M m out 8 ∧ e = .returned (.agg (mt out))) ∧ Below w.heap.size w w' := by
  have hp := F.prime
  have hp1 := F.two
  have hp2 := F.max
  have hcb := F.c0
  have hbl := block_lt_of_cell hcb
  have HP := Lib.hid hp
  have HM := Lib.hid hM
  have hb1 : Below w.heap.size w (w.alloc (.cells (mt M) 154)) := (Below.refl _ _).alloc (Nat.le_refl _) _
  have hb2 := hb1.alloc hb1.size (.cells (mt fun _ _ => (0 : Fin p)) 154)
  have hb3 := hb2.alloc hb2.size (.cells (mt fun _ _ => (0 : Fin p)) 154)
  have hB0 := ((Blk.new w 154 (mt M)).alloc (.cells (mt fun _ _ => (0 : Fin p)) 154)).alloc (.cells (mt fun _ _ => (0 : Fin p)) 154)
  have hB1 := (Blk.new (w.alloc (.cells (mt M) 154)) 154 (mt fun _ _ => (0 : Fin p))).alloc (.cells (mt fun _ _ => (0 : Fin p)) 154)
  have hB2 := Blk.new ((w.alloc (.cells (mt M) 154)).alloc (.cells (mt fun _ _ => (0 : Fin p)) 154)) 154 (mt fun _ _ => (0 : Fin p))
  rw [World.size_alloc] at hB1 hB2
  rw [World.size_alloc] at hB2
  have hB2' : mt (fun _ _ => (0 : Fin p)) = mt (diagM 0) := mt_congr fun i j _ _ => by unfold diagM; rw [if_neg (by omega)]
  have hM0 : Mats w M (diagM 0) (((w.alloc (.cells (mt M) 154)).alloc (.cells (mt fun _ _ => (0 : Fin p)) 154)).alloc (.cells (mt fun _ _ => (0 : Fin p)) 154)) := ⟨hB0, hB1, by unfold MBlk; rw [← hB2']; exact hB2, hb3⟩
  have HM0 := Lib.hid hM0
  clear hp hM hB0 hB1 hB2 hB2' hb1 hb2 hb3 hM0
  go_enter Tryz.func123, Tryz.ntmps123
  go_wp2
  go_loopw [14] (fun t wr => ∃ i : Nat, i ≤ 8 ∧ t = vi i ∧ Mats w M (diagM i) wr) (fun t _ => 8 - (intOf t).toNat)
  case atStart => exact ⟨0, by omega, rfl, HM0.out⟩
  case round =>
    obtain ⟨i, hi, rfl, h0, h1, h2, hb⟩ := hrel
    by_cases hi8 : i < 8
    · have hc := h2.at_ hi8 hi8
      have hf := h2.frozen (i * 8 + i)
      have hst := h2.set hi8 hi8 1
      rw [fv_one hp1] at hst
      have hst2 : MBlk (wr.setCell ⟨w.heap.size + 1 + 1, i * 8 + i, none⟩ (vi 1)) (w.heap.size + 1 + 1) (diagM (p := p) (i + 1)) := hst.congr fun a b _ _ => by
        unfold updM diagM
        by_cases e : a = i ∧ b = i
        · rw [if_pos e, if_pos ⟨by omega, by omega⟩]
        · rw [if_neg e]
          by_cases e2 : a = b ∧ a < i
          · rw [if_pos e2, if_pos ⟨e2.1, by omega⟩]
          · rw [if_neg e2, if_neg (by omega)]
      have q0 := h0.far (q := ⟨w.heap.size + 1 + 1, i * 8 + i, none⟩) (by show w.heap.size ≠ w.heap.size + 1 + 1; omega) (vi 1)
      have q1 := h1.far (q := ⟨w.heap.size + 1 + 1, i * 8 + i, none⟩) (by show w.heap.size + 1 ≠ w.heap.size + 1 + 1; omega) (vi 1)
      have qb := hb.setCell (p := ⟨w.heap.size + 1 + 1, i * 8 + i, none⟩) (by show w.heap.size ≤ w.heap.size + 1 + 1; omega) (vi 1)
      have HQ := Lib.hid (show Mats w M (diagM (i + 1)) (wr.setCell ⟨w.heap.size + 1 + 1, i * 8 + i, none⟩ (vi 1)) from ⟨q0, q1, hst2, qb⟩)
      have i1 : (0 : Int) ≤ (i : Int) := by omega
      have i2 : (i : Int) < 8 := by omega
      clear hst hst2 q0 q1 qb
      go_wp2
      go_roundw
      case rel => exact ⟨i + 1, by omega, by go_num, HQ.out⟩
      case measure => simp [intOf]; omega
    · have ei : i = 8 := by omega
      have h3 : MBlk wr (w.heap.size + 1 + 1) (unitM (p := p)) := h2.congr fun a b ha _ => by
        unfold diagM unitM
        by_cases e : a = b
        · rw [if_pos ⟨e, by omega⟩, if_pos e]
        · rw [if_neg (by omega), if_neg e]
      have HQ := Lib.hid (show Mats w M unitM wr from ⟨h0, h1, h3, hb⟩)
      have t1 : ¬ (i : Int) < 8 := by omega
      clear h0 h1 h2 h3 hb ei
      go_wp2
      go_loopw [22] (fun t wr => ∃ (i : Nat) (m out : Nat → Nat → Fin p), i ≤ 8 ∧ t = vi i ∧ Undo M m out i ∧ Mats w m out wr) (fun t _ => 8 - (intOf t).toNat)
      case atStart => exact ⟨0, M, unitM, by omega, rfl, Undo.start M, HQ.out⟩
      case round =>
        clear HQ HM0 t1 hi8 hi
        obtain ⟨i, m, out, hi, rfl, hu, h0, h1, h2, hb⟩ := hrel
        have HU := Lib.hid hu
        clear hu
        by_cases hi8 : i < 8
        · have hpv := HU.out.pivot HP.out HM.out hi8
          have HPV := Lib.hid hpv
          have i1 : (0 : Int) ≤ (i : Int) := by omega
          have i2 : (i : Int) < 8 := by omega
          clear hpv
          go_wp2
          go_loop [8] (fun t => ∃ k : Nat, i ≤ k ∧ k < 8 ∧ t = vi k ∧ ∃ k0, k ≤ k0 ∧ k0 < 8 ∧ m k0 i ≠ 0) (fun t => 8 - (intOf t).toNat)
          case atStart => exact ⟨i, Nat.le_refl _, hi8, rfl, HPV.out⟩
          case round =>
            obtain ⟨k, hk1, hk2, rfl, hk0⟩ := hrel
            have hck := h0.at_ hk2 hi8
            have k1 : (0 : Int) ≤ (k : Int) := by omega
            have k2 : (k : Int) < 8 := by omega
            by_cases hz : m k i = 0
            · have tz : (fv (m k i) == 0) = true := by rw [hz]; rfl
              have hk3 : k + 1 < 8 ∧ ∃ k0, k + 1 ≤ k0 ∧ k0 < 8 ∧ m k0 i ≠ 0 := by
                obtain ⟨k0, e1, e2, e3⟩ := hk0
                have : k0 ≠ k := fun e => e3 (e ▸ hz)
                exact ⟨by omega, k0, by omega, e2, e3⟩
              have HK3 := Lib.hid hk3
              have hk38 := hk3.1
              clear hz hk0 hk3
              go_wp2
              go_round
              case rel => exact ⟨k + 1, by omega, by omega, by go_num, HK3.out.2⟩
              case measure => simp [intOf]; omega
            · have tz : (fv (m k i) == 0) = false := by rw [beq_eq_false_iff_ne]; exact fun e => hz (fv_eq_zero.1 e)
              have HZ := Lib.hid hz
              clear hz hk0
              have r1 := swap_run wr w.heap.size m h0 hi8 hk2
              have r2 := fun W (h : MBlk W (w.heap.size + 1 + 1) out) => swap_run W (w.heap.size + 1 + 1) out h hi8 hk2
              obtain ⟨W1, W2, e1, e2, l1, l2, s1, s2, B1, E1, G1⟩ := r1
              have hh1 := G1 (w.heap.size + 1) (fun _ _ => (0 : Fin p)) (by omega) h1
              have hh2 := G1 (w.heap.size + 1 + 1) out (by omega) h2
              have hbb := E1 w.heap.size w (by omega) hb
              obtain ⟨W3, W4, e3, e4, l3, l4, s3, s4, B2, E2, G2⟩ := r2 W2 hh2
              have hmx : Tryz.prog.follows .mixedOrders = true := by kernel_rfl
              clear r2
              go_wp2
              refine' wp_fixed _ W2 ?reg ?next
              case reg =>
                refine wp_region_any hmx ?_
                change wpAny _ _ _ _ _ _ _ (World.drew _)
                refine' wpAny_take_at (i := 0) (v := _) rfl rfl (by kernel_rfl) (by kernel_rfl) (by kernel_rfl) (fun _ _ _ h => nomatch h.1) (Or.inl ⟨by rfl, ?_⟩) ?_
                rotate_left
                · (intro w; go_simp; try with_reducible rfl)
                simp only [Act.put, List.setIfInBounds_toArray, List.set_cons_zero, List.set_cons_succ]
                refine' wpAny_take_at (i := 1) (v := _) rfl rfl (by kernel_rfl) (by kernel_rfl) (by kernel_rfl) (fun _ _ _ h => nomatch h.1) (Or.inl ⟨by rfl, ?_⟩) ?_
                rotate_left
                · (intro w; go_simp; try with_reducible rfl)
                simp only [Act.put, List.setIfInBounds_toArray, List.set_cons_zero, List.set_cons_succ]
                refine' wpAny_take_at (i := 2) (v := _) rfl rfl (by kernel_rfl) (by kernel_rfl) (by kernel_rfl) (fun _ _ _ h => nomatch h.1) (Or.inl ⟨by rfl, ?_⟩) ?_
                rotate_left
                · (intro w; go_simp; try with_reducible rfl)
                simp only [Act.put, List.setIfInBounds_toArray, List.set_cons_zero, List.set_cons_succ]
                refine' wpAny_take_at (i := 3) (v := _) rfl rfl (by kernel_rfl) (by kernel_rfl) (by kernel_rfl) (fun _ _ _ h => nomatch h.1) (Or.inl ⟨by rfl, ?_⟩) ?_
                rotate_left
                · (intro w; go_simp; try with_reducible rfl)
                simp only [Act.put, List.setIfInBounds_toArray, List.set_cons_zero, List.set_cons_succ]
                refine' wpAny_take_at (i := 5) (v := _) rfl rfl (by kernel_rfl) (by kernel_rfl) (by kernel_rfl) (fun _ _ _ h => nomatch h.1) (Or.inl ⟨by rfl, ?_⟩) ?_
                rotate_left
                · (intro w; go_simp; try with_reducible rfl)
                simp only [Act.put, List.setIfInBounds_toArray, List.set_cons_zero, List.set_cons_succ]
                refine' wpAny_take_at (i := 6) (v := _) rfl rfl (by kernel_rfl) (by kernel_rfl) (by kernel_rfl) (fun _ _ _ h => nomatch h.1) (Or.inl ⟨by rfl, ?_⟩) ?_
                rotate_left
                · (intro w; go_simp; try with_reducible rfl)
                simp only [Act.put, List.setIfInBounds_toArray, List.set_cons_zero, List.set_cons_succ]
                refine wpAny_ready (rs := [4, 7]) (by kernel_rfl) (by simp) ?_
                refine AllReady.cons rfl (fun K hK => ?_) (AllReady.cons rfl (fun K hK => ?_) AllReady.nil)
                · skip
                  refine step_load8 rfl rfl rfl rfl l1 ?_
                  refine hK _ _ ?_
                  clear hK K
                  simp only [Act.put, List.setIfInBounds_toArray, List.set_cons_zero, List.set_cons_succ]
                  refine wpAny_ready (rs := [7]) (by kernel_rfl) (by simp) ?_
                  refine AllReady.cons rfl (fun K hK => ?_) AllReady.nil
                  refine step_load8 rfl rfl rfl rfl l2 ?_
                  refine hK _ _ ?_
                  clear hK K
                  simp only [Act.put, List.setIfInBounds_toArray, List.set_cons_zero, List.set_cons_succ]
                  refine' wpAny_take_at (i := 8) (v := _) rfl rfl (by kernel_rfl) (by kernel_rfl) (by kernel_rfl) (fun _ _ _ h => nomatch h.1) (Or.inl ⟨by rfl, ?_⟩) ?_
                  rotate_left
                  · (intro w; go_simp; try with_reducible rfl)
                  simp only [Act.put, List.setIfInBounds_toArray, List.set_cons_zero, List.set_cons_succ]
                  refine wpAny_ready (rs := [9]) (by kernel_rfl) (by simp) ?_
                  refine AllReady.cons rfl (fun K hK => ?_) AllReady.nil
                  refine step_store8 rfl rfl rfl rfl rfl s1 ?_
                  refine hK _ _ ?_
                  clear hK K
                  rw [← e1]
                  refine' wpAny_take_at (i := 10) (v := _) rfl rfl (by kernel_rfl) (by kernel_rfl) (by kernel_rfl) (fun _ _ _ h => nomatch h.1) (Or.inl ⟨by rfl, ?_⟩) ?_
                  rotate_left
                  · (intro w; go_simp; try with_reducible rfl)
                  simp only [Act.put, List.setIfInBounds_toArray, List.set_cons_zero, List.set_cons_succ]
                  refine wpAny_ready (rs := [11]) (by kernel_rfl) (by simp) ?_
                  refine AllReady.cons rfl (fun K hK => ?_) AllReady.nil
                  refine step_store8 rfl rfl rfl rfl rfl s2 ?_
                  refine hK _ _ ?_
                  clear hK K
                  rw [← e2]
                  refine wpAny_done (by kernel_rfl) ?_ _
                  refine ⟨rfl, rfl, ?_⟩
                  exact Eq.refl _
                · skip
                  refine step_load8 rfl rfl rfl rfl l2 ?_
                  refine hK _ _ ?_
                  clear hK K
                  simp only [Act.put, List.setIfInBounds_toArray, List.set_cons_zero, List.set_cons_succ]
                  refine wpAny_ready (rs := [4]) (by kernel_rfl) (by simp) ?_
                  refine AllReady.cons rfl (fun K hK => ?_) AllReady.nil
                  refine step_load8 rfl rfl rfl rfl l1 ?_
                  refine hK _ _ ?_
                  clear hK K
                  simp only [Act.put, List.setIfInBounds_toArray, List.set_cons_zero, List.set_cons_succ]
                  refine' wpAny_take_at (i := 8) (v := _) rfl rfl (by kernel_rfl) (by kernel_rfl) (by kernel_rfl) (fun _ _ _ h => nomatch h.1) (Or.inl ⟨by rfl, ?_⟩) ?_
                  rotate_left
                  · (intro w; go_simp; try with_reducible rfl)
                  simp only [Act.put, List.setIfInBounds_toArray, List.set_cons_zero, List.set_cons_succ]
                  refine wpAny_ready (rs := [9]) (by kernel_rfl) (by simp) ?_
                  refine AllReady.cons rfl (fun K hK => ?_) AllReady.nil
                  refine step_store8 rfl rfl rfl rfl rfl s1 ?_
                  refine hK _ _ ?_
                  clear hK K
                  rw [← e1]
                  refine' wpAny_take_at (i := 10) (v := _) rfl rfl (by kernel_rfl) (by kernel_rfl) (by kernel_rfl) (fun _ _ _ h => nomatch h.1) (Or.inl ⟨by rfl, ?_⟩) ?_
                  rotate_left
                  · (intro w; go_simp; try with_reducible rfl)
                  simp only [Act.put, List.setIfInBounds_toArray, List.set_cons_zero, List.set_cons_succ]
                  refine wpAny_ready (rs := [11]) (by kernel_rfl) (by simp) ?_
                  refine AllReady.cons rfl (fun K hK => ?_) AllReady.nil
                  refine step_store8 rfl rfl rfl rfl rfl s2 ?_
                  refine hK _ _ ?_
                  clear hK K
                  rw [← e2]
                  refine wpAny_done (by kernel_rfl) ?_ _
                  refine ⟨rfl, rfl, ?_⟩
                  exact Eq.refl _
              case next =>
                have HB := Lib.hid (⟨B1, hh1, hbb⟩ : MBlk W2 w.heap.size (swapR m i k) ∧ MBlk W2 (w.heap.size + 1) (fun _ _ => (0 : Fin p)) ∧ Below w.heap.size w W2)
                have HS := Lib.hid (⟨e3, e4, l3, l4, s3, s4, B2, E2, G2⟩ : _ ∧ _ ∧ _ ∧ _ ∧ _ ∧ _ ∧ _ ∧ _ ∧ _)
                clear e1 e2 l1 l2 s1 s2 B1 E1 G1 hh1 hh2 hbb e3 e4 l3 l4 s3 s4 B2 E2 G2 h0 h1 h2 hb hck
                go_wp2
                obtain ⟨e3, e4, l3, l4, s3, s4, B2, E2, G2⟩ := HS.out
                refine' wp_fixed _ W4 ?reg ?next
                case reg =>
                  refine wp_region_any hmx ?_
                  change wpAny _ _ _ _ _ _ _ (World.drew _)
                  refine' wpAny_take_at (i := 0) (v := _) rfl rfl (by kernel_rfl) (by kernel_rfl) (by kernel_rfl) (fun _ _ _ h => nomatch h.1) (Or.inl ⟨by rfl, ?_⟩) ?_
                  rotate_left
                  · (intro w; go_simp; try with_reducible rfl)
                  simp only [Act.put, List.setIfInBounds_toArray, List.set_cons_zero, List.set_cons_succ]
                  refine' wpAny_take_at (i := 1) (v := _) rfl rfl (by kernel_rfl) (by kernel_rfl) (by kernel_rfl) (fun _ _ _ h => nomatch h.1) (Or.inl ⟨by rfl, ?_⟩) ?_
                  rotate_left
                  · (intro w; go_simp; try with_reducible rfl)
                  simp only [Act.put, List.setIfInBounds_toArray, List.set_cons_zero, List.set_cons_succ]
                  refine' wpAny_take_at (i := 2) (v := _) rfl rfl (by kernel_rfl) (by kernel_rfl) (by kernel_rfl) (fun _ _ _ h => nomatch h.1) (Or.inl ⟨by rfl, ?_⟩) ?_
                  rotate_left
                  · (intro w; go_simp; try with_reducible rfl)
                  simp only [Act.put, List.setIfInBounds_toArray, List.set_cons_zero, List.set_cons_succ]
                  refine' wpAny_take_at (i := 3) (v := _) rfl rfl (by kernel_rfl) (by kernel_rfl) (by kernel_rfl) (fun _ _ _ h => nomatch h.1) (Or.inl ⟨by rfl, ?_⟩) ?_
                  rotate_left
                  · (intro w; go_simp; try with_reducible rfl)
                  simp only [Act.put, List.setIfInBounds_toArray, List.set_cons_zero, List.set_cons_succ]
                  refine' wpAny_take_at (i := 5) (v := _) rfl rfl (by kernel_rfl) (by kernel_rfl) (by kernel_rfl) (fun _ _ _ h => nomatch h.1) (Or.inl ⟨by rfl, ?_⟩) ?_
                  rotate_left
                  · (intro w; go_simp; try with_reducible rfl)
                  simp only [Act.put, List.setIfInBounds_toArray, List.set_cons_zero, List.set_cons_succ]
                  refine' wpAny_take_at (i := 6) (v := _) rfl rfl (by kernel_rfl) (by kernel_rfl) (by kernel_rfl) (fun _ _ _ h => nomatch h.1) (Or.inl ⟨by rfl, ?_⟩) ?_
                  rotate_left
                  · (intro w; go_simp; try with_reducible rfl)
                  simp only [Act.put, List.setIfInBounds_toArray, List.set_cons_zero, List.set_cons_succ]
                  refine wpAny_ready (rs := [4, 7]) (by kernel_rfl) (by simp) ?_
                  refine AllReady.cons rfl (fun K hK => ?_) (AllReady.cons rfl (fun K hK => ?_) AllReady.nil)
                  · skip
                    refine step_load8 rfl rfl rfl rfl l3 ?_
                    refine hK _ _ ?_
                    clear hK K
                    simp only [Act.put, List.setIfInBounds_toArray, List.set_cons_zero, List.set_cons_succ]
                    refine wpAny_ready (rs := [7]) (by kernel_rfl) (by simp) ?_
                    refine AllReady.cons rfl (fun K hK => ?_) AllReady.nil
                    refine step_load8 rfl rfl rfl rfl l4 ?_
                    refine hK _ _ ?_
                    clear hK K
                    simp only [Act.put, List.setIfInBounds_toArray, List.set_cons_zero, List.set_cons_succ]
                    refine' wpAny_take_at (i := 8) (v := _) rfl rfl (by kernel_rfl) (by kernel_rfl) (by kernel_rfl) (fun _ _ _ h => nomatch h.1) (Or.inl ⟨by rfl, ?_⟩) ?_
                    rotate_left
                    · (intro w; go_simp; try with_reducible rfl)
                    simp only [Act.put, List.setIfInBounds_toArray, List.set_cons_zero, List.set_cons_succ]
                    refine wpAny_ready (rs := [9]) (by kernel_rfl) (by simp) ?_
                    refine AllReady.cons rfl (fun K hK => ?_) AllReady.nil
                    refine step_store8 rfl rfl rfl rfl rfl s3 ?_
                    refine hK _ _ ?_
                    clear hK K
                    rw [← e3]
                    refine' wpAny_take_at (i := 10) (v := _) rfl rfl (by kernel_rfl) (by kernel_rfl) (by kernel_rfl) (fun _ _ _ h => nomatch h.1) (Or.inl ⟨by rfl, ?_⟩) ?_
                    rotate_left
                    · (intro w; go_simp; try with_reducible rfl)
                    simp only [Act.put, List.setIfInBounds_toArray, List.set_cons_zero, List.set_cons_succ]
                    refine wpAny_ready (rs := [11]) (by kernel_rfl) (by simp) ?_
                    refine AllReady.cons rfl (fun K hK => ?_) AllReady.nil
                    refine step_store8 rfl rfl rfl rfl rfl s4 ?_
                    refine hK _ _ ?_
                    clear hK K
                    rw [← e4]
                    refine wpAny_done (by kernel_rfl) ?_ _
                    refine ⟨rfl, rfl, ?_⟩
                    exact Eq.refl _
                  · skip
                    refine step_load8 rfl rfl rfl rfl l4 ?_
                    refine hK _ _ ?_
                    clear hK K
                    simp only [Act.put, List.setIfInBounds_toArray, List.set_cons_zero, List.set_cons_succ]
                    refine wpAny_ready (rs := [4]) (by kernel_rfl) (by simp) ?_
                    refine AllReady.cons rfl (fun K hK => ?_) AllReady.nil
                    refine step_load8 rfl rfl rfl rfl l3 ?_
                    refine hK _ _ ?_
                    clear hK K
                    simp only [Act.put, List.setIfInBounds_toArray, List.set_cons_zero, List.set_cons_succ]
                    refine' wpAny_take_at (i := 8) (v := _) rfl rfl (by kernel_rfl) (by kernel_rfl) (by kernel_rfl) (fun _ _ _ h => nomatch h.1) (Or.inl ⟨by rfl, ?_⟩) ?_
                    rotate_left
                    · (intro w; go_simp; try with_reducible rfl)
                    simp only [Act.put, List.setIfInBounds_toArray, List.set_cons_zero, List.set_cons_succ]
                    refine wpAny_ready (rs := [9]) (by kernel_rfl) (by simp) ?_
                    refine AllReady.cons rfl (fun K hK => ?_) AllReady.nil
                    refine step_store8 rfl rfl rfl rfl rfl s3 ?_
                    refine hK _ _ ?_
                    clear hK K
                    rw [← e3]
                    refine' wpAny_take_at (i := 10) (v := _) rfl rfl (by kernel_rfl) (by kernel_rfl) (by kernel_rfl) (fun _ _ _ h => nomatch h.1) (Or.inl ⟨by rfl, ?_⟩) ?_
                    rotate_left
                    · (intro w; go_simp; try with_reducible rfl)
                    simp only [Act.put, List.setIfInBounds_toArray, List.set_cons_zero, List.set_cons_succ]
                    refine wpAny_ready (rs := [11]) (by kernel_rfl) (by simp) ?_
                    refine AllReady.cons rfl (fun K hK => ?_) AllReady.nil
                    refine step_store8 rfl rfl rfl rfl rfl s4 ?_
                    refine hK _ _ ?_
                    clear hK K
                    rw [← e4]
                    refine wpAny_done (by kernel_rfl) ?_ _
                    refine ⟨rfl, rfl, ?_⟩
                    exact Eq.refl _
                case next =>
                  have hmats : Mats w (swapR m i k) (swapR out i k) W4 := ⟨G2 _ _ (by omega) HB.out.1, G2 _ _ (by omega) HB.out.2.1, B2, E2 _ _ (by omega) HB.out.2.2⟩
                  clear e3 e4 l3 l4 s3 s4 B2 E2 G2 HB HS
                  have hu1 := HU.out.swap hi8 hk2 hk1
                  have hn1 : swapR m i k i i ≠ 0 := by unfold swapR; rw [if_pos rfl]; exact HZ.out
                  obtain ⟨m1, hm1⟩ : ∃ m1, m1 = swapR m i k := ⟨_, rfl⟩
                  obtain ⟨o1, ho1⟩ : ∃ o1, o1 = swapR out i k := ⟨_, rfl⟩
                  rw [← hm1, ← ho1] at hu1 hmats
                  rw [← hm1] at hn1
                  clear hm1 ho1 HU HZ HPV tz hk1 hk2 k1 k2
                  have HU := Lib.hid hu1
                  have HN := Lib.hid hn1
                  have HMA := Lib.hid hmats
                  have hc15 := hmats.1.at_ hi8 hi8
                  have hcr := (F.below hmats.2.2.2 F.le).c0
                  clear hu1 hn1 hmats
                  go_wp2_with fail
                  refine (inv_any p hp1 hp2 b (fv (m1 i i)) (i64_fv _ hp2) W4 hcr).mono ?_
                  rintro _ _ ⟨rfl, rfl⟩
                  rw [el_fv]
                  obtain ⟨c, hcc⟩ : ∃ c, c = Zp.inv (m1 i i) := ⟨_, rfl⟩
                  rw [← hcc]
                  have HC := Lib.hid hcc
                  clear hcc hc15 hcr
                  go_wp2
                  go_loopw [61] (fun t wr => ∃ j : Nat, j ≤ 8 ∧ t = vi j ∧ Mats w (pscl m1 i c j) (pscl o1 i c j) wr) (fun t _ => 8 - (intOf t).toNat)
                  case atStart => exact ⟨0, by omega, rfl, HMA.out.1.congr fun a b _ _ => pscl_zero _ _ _ _ _, HMA.out.2.1, HMA.out.2.2.1.congr fun a b _ _ => pscl_zero _ _ _ _ _, HMA.out.2.2.2⟩
                  case round =>
                    obtain ⟨j, hj, rfl, h0, h1, h2, hb⟩ := hrel
                    by_cases hj8 : j < 8
                    · have c0 := h0.at_ hi8 hj8
                      have c2 := h2.at_ hi8 hj8
                      rw [pscl_at] at c0 c2
                      have f0 := h0.frozen (i * 8 + j)
                      have f2 := h2.frozen (i * 8 + j)
                      have HW : ∀ W, Mats w (pscl m1 i c j) (pscl o1 i c j) W → Mats w (pscl m1 i c (j + 1)) (pscl o1 i c (j + 1)) ((W.setCell ⟨w.heap.size, i * 8 + j, none⟩ (vi (fv (m1 i j * c)))).setCell ⟨w.heap.size + 1 + 1, i * 8 + j, none⟩ (vi (fv (o1 i j * c)))) := fun W ⟨g0, g1, g2, gb⟩ =>
                        ⟨((g0.set hi8 hj8 (m1 i j * c)).far (q := ⟨w.heap.size + 1 + 1, i * 8 + j, none⟩) (by show w.heap.size ≠ w.heap.size + 1 + 1; omega) _).congr fun a b _ _ => pscl_step m1 i c j a b,
                         (g1.far (q := ⟨w.heap.size, i * 8 + j, none⟩) (by show w.heap.size + 1 ≠ w.heap.size; omega) _).far (q := ⟨w.heap.size + 1 + 1, i * 8 + j, none⟩) (by show w.heap.size + 1 ≠ w.heap.size + 1 + 1; omega) _,
                         ((g2.far (q := ⟨w.heap.size, i * 8 + j, none⟩) (by show w.heap.size + 1 + 1 ≠ w.heap.size; omega) _).set hi8 hj8 (o1 i j * c)).congr fun a b _ _ => pscl_step o1 i c j a b,
                         (gb.setCell (p := ⟨w.heap.size, i * 8 + j, none⟩) (Nat.le_refl _) _).setCell (p := ⟨w.heap.size + 1 + 1, i * 8 + j, none⟩) (by show w.heap.size ≤ w.heap.size + 1 + 1; omega) _⟩
                      have hcr := (F.below hb F.le).c0
                      have hHM : ∀ n, Mats w (pscl m1 i c j) (pscl o1 i c j) (wr.drewN n) := fun n => ⟨h0, h1, h2, below_drewN hb n⟩
                      have HHM := Lib.hid hHM
                      have HHW := Lib.hid HW
                      have X1 := fun (n : Fin p) W hcW => mul_any p hp2 b (fv n) (fv c) (i64_fv _ hp2) (i64_fv _ hp2) W hcW
                      simp only [el_fv] at X1
                      have HX1 := Lib.hid X1
                      have j1 : (0 : Int) ≤ (j : Int) := by omega
                      have j2 : (j : Int) < 8 := by omega
                      clear X1 HW hHM h0 h1 h2 hb
                      go_wp2
                      refine' wp_fixedR _ (fun w' => Mats w (pscl m1 i c (j + 1)) (pscl o1 i c (j + 1)) w') ?reg ?next
                      case reg =>
                        go_region_law (go_simp; go_at_call 74; refine (HX1.out _ _ (by exact hcr)).mono ?_; rintro _ _ ⟨rfl, kq, rfl⟩)
                        all_goals (refine And.intro ?_ ?_; rotate_left; exact Eq.refl _)
                        all_goals exact HHW.out _ (HHM.out _)
                      case next =>
                        intro W hW
                        have HH := Lib.hid hW
                        clear hW HHW HHM c0 c2 f0 f2 hcr
                        go_wp2
                        go_roundw
                        case rel => exact ⟨j + 1, by omega, by go_num, HH.out⟩
                        case measure => simp [intOf]; omega
                    · have ej : j = 8 := by omega
                      subst ej
                      have hmats : Mats w (sclR m1 i c) (sclR o1 i c) wr := ⟨h0.congr fun a b _ hb => pscl_done m1 i c a b hb, h1, h2.congr fun a b _ hb => pscl_done o1 i c a b hb, hb⟩
                      have hu2 := HU.out.scale HP.out hi8 (show c ≠ 0 by rw [HC.out]; exact inv_ne_zero HP.out HN.out)
                      have hn2 : sclR m1 i c i i = 1 := by unfold sclR; rw [if_pos rfl, HC.out, mul_inv HP.out HN.out]
                      obtain ⟨m2, hm2⟩ : ∃ m2, m2 = sclR m1 i c := ⟨_, rfl⟩
                      obtain ⟨o2, ho2⟩ : ∃ o2, o2 = sclR o1 i c := ⟨_, rfl⟩
                      rw [← hm2, ← ho2] at hu2 hmats
                      rw [← hm2] at hn2
                      clear hm2 ho2 HU HN HMA h0 h1 h2 hb
                      have HU := Lib.hid hu2
                      have HN := Lib.hid hn2
                      have HMA := Lib.hid hmats
                      clear hu2 hn2 hmats HC
                      go_wp2
                      go_loopw [89] (fun t wr => ∃ r : Nat, r ≤ 8 ∧ t = vi r ∧ Mats w (pelm m2 (fun a => m2 a i) i r 0) (pelm o2 (fun a => m2 a i) i r 0) wr) (fun t _ => 8 - (intOf t).toNat)
                      case atStart => exact ⟨0, by omega, rfl, HMA.out.1.congr fun a b _ _ => pelm_zero _ _ _ _ _, HMA.out.2.1, HMA.out.2.2.1.congr fun a b _ _ => pelm_zero _ _ _ _ _, HMA.out.2.2.2⟩
                      case round =>
                        obtain ⟨r, hr, rfl, h0, h1, h2, hb⟩ := hrel
                        by_cases hr8 : r < 8
                        · by_cases hri : r = i
                          · subst hri
                            have HH := Lib.hid (⟨h0.congr fun a b _ _ => pelm_skip m2 (fun a => m2 a r) r a b, h1, h2.congr fun a b _ _ => pelm_skip o2 (fun a => m2 a r) r a b, hb⟩ : Mats w (pelm m2 (fun a => m2 a r) r (r + 1) 0) (pelm o2 (fun a => m2 a r) r (r + 1) 0) wr)
                            clear h0 h1 h2 hb
                            go_wp2
                            go_roundw
                            case rel => exact ⟨r + 1, by omega, by go_num, HH.out⟩
                            case measure => simp [intOf]; omega
                          · have HNE := Lib.hid hri
                            have tri : ((r : Int) == (i : Int)) = false := by rw [beq_eq_false_iff_ne]; omega
                            have cr0 := h0.at_ hr8 hi8
                            rw [pelm_head] at cr0
                            have r1 : (0 : Int) ≤ (r : Int) := by omega
                            have r2 : (r : Int) < 8 := by omega
                            have HH := Lib.hid (⟨h0, h1, h2, hb⟩ : Mats w (pelm m2 (fun a => m2 a i) i r 0) (pelm o2 (fun a => m2 a i) i r 0) wr)
                            clear h0 h1 h2 hb hri
                            go_wp2
                            go_loopw [100] (fun t wr => ∃ j : Nat, j ≤ 8 ∧ t = vi j ∧ Mats w (pelm m2 (fun a => m2 a i) i r j) (pelm o2 (fun a => m2 a i) i r j) wr) (fun t _ => 8 - (intOf t).toNat)
                            case atStart => exact ⟨0, by omega, rfl, HH.out⟩
                            case round =>
                              clear HH cr0 HMA HU HN
                              obtain ⟨j, hj, rfl, h0, h1, h2, hb⟩ := hrel
                              by_cases hj8 : j < 8
                              · have c0 := h0.at_ hr8 hj8
                                have c2 := h2.at_ hr8 hj8
                                have d0 := h0.at_ hi8 hj8
                                have d2 := h2.at_ hi8 hj8
                                rw [pelm_row _ _ _ _ _ HNE.out] at c0 c2
                                rw [pelm_i] at d0 d2
                                have f0 := h0.frozen (r * 8 + j)
                                have f2 := h2.frozen (r * 8 + j)
                                have HW : ∀ W, Mats w (pelm m2 (fun a => m2 a i) i r j) (pelm o2 (fun a => m2 a i) i r j) W → Mats w (pelm m2 (fun a => m2 a i) i r (j + 1)) (pelm o2 (fun a => m2 a i) i r j) (W.setCell ⟨w.heap.size, r * 8 + j, none⟩ (vi (fv (m2 r j - m2 r i * m2 i j)))) := fun W ⟨g0, g1, g2, gb⟩ =>
                                  ⟨(g0.set hr8 hj8 (m2 r j - m2 r i * m2 i j)).congr fun a b _ _ => pelm_step m2 (fun a => m2 a i) i r j a b HNE.out,
                                   g1.far (q := ⟨w.heap.size, r * 8 + j, none⟩) (by show w.heap.size + 1 ≠ w.heap.size; omega) _,
                                   g2.far (q := ⟨w.heap.size, r * 8 + j, none⟩) (by show w.heap.size + 1 + 1 ≠ w.heap.size; omega) _,
                                   gb.setCell (p := ⟨w.heap.size, r * 8 + j, none⟩) (Nat.le_refl _) _⟩
                                have HV : ∀ W, Mats w (pelm m2 (fun a => m2 a i) i r (j + 1)) (pelm o2 (fun a => m2 a i) i r j) W → Mats w (pelm m2 (fun a => m2 a i) i r (j + 1)) (pelm o2 (fun a => m2 a i) i r (j + 1)) (W.setCell ⟨w.heap.size + 1 + 1, r * 8 + j, none⟩ (vi (fv (o2 r j - m2 r i * o2 i j)))) := fun W ⟨g0, g1, g2, gb⟩ =>
                                  ⟨g0.far (q := ⟨w.heap.size + 1 + 1, r * 8 + j, none⟩) (by show w.heap.size ≠ w.heap.size + 1 + 1; omega) _,
                                   g1.far (q := ⟨w.heap.size + 1 + 1, r * 8 + j, none⟩) (by show w.heap.size + 1 ≠ w.heap.size + 1 + 1; omega) _,
                                   (g2.set hr8 hj8 (o2 r j - m2 r i * o2 i j)).congr fun a b _ _ => pelm_step o2 (fun a => m2 a i) i r j a b HNE.out,
                                   gb.setCell (p := ⟨w.heap.size + 1 + 1, r * 8 + j, none⟩) (by show w.heap.size ≤ w.heap.size + 1 + 1; omega) _⟩
                                have hcr := (F.below hb F.le).c0
                                have hHM : ∀ n, Mats w (pelm m2 (fun a => m2 a i) i r j) (pelm o2 (fun a => m2 a i) i r j) (wr.drewN n) := fun n => ⟨h0, h1, h2, below_drewN hb n⟩
                                have HHM := Lib.hid hHM
                                have HHW := Lib.hid HW
                                have HHV := Lib.hid HV
                                have X1 := fun (n : Fin p) W hcW => mul_any p hp2 b (fv (m2 r i)) (fv n) (i64_fv _ hp2) (i64_fv _ hp2) W hcW
                                have X2 := fun (n k : Fin p) W hcW => sub_any p hp2 b (fv n) (fv k) (i64_fv _ hp2) (i64_fv _ hp2) W hcW
                                simp only [el_fv] at X1 X2
                                have HX1 := Lib.hid X1
                                have HX2 := Lib.hid X2
                                have j1 : (0 : Int) ≤ (j : Int) := by omega
                                have j2 : (j : Int) < 8 := by omega
                                clear X1 X2 HW HV hHM h0 h1 h2 hb
                                go_wp2
                                refine wp_region_quiet_tail 19 hmx (by kernel_rfl) ?_
                                simp only [List.take_succ_cons, List.take_zero, List.drop_succ_cons, List.drop_zero]
                                repeat (quiet_step (first | (go_at_call 74; exact Calls.quiet_of (HX1.out _ _ (by exact hcr))) | (go_at_call 134; exact Calls.quiet_of_same ((HX2.out _ _ _ (by exact hcr)).mono fun e w' h => ⟨h.1, h.2.symm⟩))))
                                refine wpQuiet_nil ?_
                                intro _ hw'
                                obtain ⟨nq1, hw''⟩ := hw'
                                subst hw''
                                go_wp2
                                have hM5 := HHW.out _ (HHM.out nq1)
                                generalize hW5 : World.setCell (World.drewN wr nq1) _ _ = W5 at hM5
                                obtain ⟨h0, h1, h2, hb⟩ := hM5
                                clear HHW HHM c0 c2 d0 d2 f0 f2 hcr hW5
                                have c2 := h2.at_ hr8 hj8
                                have d2 := h2.at_ hi8 hj8
                                rw [pelm_row _ _ _ _ _ HNE.out] at c2
                                rw [pelm_i] at d2
                                have f2 := h2.frozen (r * 8 + j)
                                have hcr := (F.below hb F.le).c0
                                have hHM : ∀ n, Mats w (pelm m2 (fun a => m2 a i) i r (j + 1)) (pelm o2 (fun a => m2 a i) i r j) (W5.drewN n) := fun n => ⟨h0, h1, h2, below_drewN hb n⟩
                                have HHM := Lib.hid hHM
                                clear hHM h0 h1 h2 hb
                                go_wp2
                                refine wp_region_quiet_tail 19 hmx (by kernel_rfl) ?_
                                simp only [List.take_succ_cons, List.take_zero, List.drop_succ_cons, List.drop_zero]
                                repeat (quiet_step (first | (go_at_call 74; exact Calls.quiet_of (HX1.out _ _ (by exact hcr))) | (go_at_call 134; exact Calls.quiet_of_same ((HX2.out _ _ _ (by exact hcr)).mono fun e w' h => ⟨h.1, h.2.symm⟩))))
                                refine wpQuiet_nil ?_
                                intro _ hw'
                                obtain ⟨nq2, hw''⟩ := hw'
                                subst hw''
                                have HM6 := Lib.hid (HHV.out _ (HHM.out nq2))
                                go_wp2
                                refine ⟨?_, ?measure⟩
                                case measure => simp [intOf]; omega
                                exact ⟨_, _, _, _, _, _, _, _, _, _, _, _, _, _, _, _, _, _, _, _, _, _, _, _, _, _, _, _, _, _, _, _, _, _, _, _, _, _, _, _, _, _, _, ⟨j + 1, by omega, by go_num, HM6.out⟩, rfl⟩
                              · have ej : j = 8 := by omega
                                subst ej
                                have HM6 := Lib.hid (⟨h0.congr fun a b _ hb => pelm_next m2 (fun a => m2 a i) i r a b HNE.out hb, h1, h2.congr fun a b _ hb => pelm_next o2 (fun a => m2 a i) i r a b HNE.out hb, hb⟩ : Mats w (pelm m2 (fun a => m2 a i) i (r + 1) 0) (pelm o2 (fun a => m2 a i) i (r + 1) 0) wr)
                                clear h0 h1 h2 hb
                                go_wp2
                                go_roundw
                                case rel => exact ⟨r + 1, by omega, by go_num, HM6.out⟩
                                case measure => simp [intOf]; omega
                        · have er : r = 8 := by omega
                          subst er
                          have HM6 := Lib.hid (⟨h0.congr fun a b ha _ => pelm_done m2 (fun a => m2 a i) i a b ha, h1, h2.congr fun a b ha _ => pelm_done o2 (fun a => m2 a i) i a b ha, hb⟩ : Mats w (subR m2 (fun a => m2 a i) i) (subR o2 (fun a => m2 a i) i) wr)
                          have HU6 := Lib.hid (HU.out.elim hi8 HN.out)
                          clear h0 h1 h2 hb
                          go_wp2
                          go_roundw
                          case rel => exact ⟨i + 1, _, _, by omega, by go_num, HU6.out, HM6.out⟩
                          case measure => simp [intOf]; omega
        · have ei : i = 8 := by omega
          subst ei
          have HU6 := Lib.hid HU.out
          have hinfo := info64 out
          clear HU
          go_wp2_with (first | (refine wpList_load_row rfl 154 _ rfl (w.heap.size + 1 + 1) rfl _ _ _ _ h2 Tryz.underlying154 rfl (info64 _) ?_) | (refine wpList_store_row rfl 154 _ _ rfl (w.heap.size + 1) _ rfl rfl _ _ h1 (info64 _) (by rw [mt_size, mt_size]) (mt_one _) ?_))
          have hB1 : Blk (wr.setRow (w.heap.size + 1) (mt out)) (w.heap.size + 1) 154 (mt out) := setRow_heap _ _ _ _ _ _ h1
          refine bodyPost_ret (v := .agg (mt out)) (results_cell_row (P := Tryz.prog) (by rfl) _ _ (w.heap.size + 1) _ _ _ _ (by rfl) hB1 Tryz.underlying154 rfl (info64 _)) rfl ⟨⟨m, out, HU6.out, rfl⟩, below_setRow8 hb (by omega) _⟩
end Go.Proofs.YtflkiddmakeabaaGreatDoor

/- Walks: sponge.gcd, sponge.inverse. -/
set_option linter.unusedVariables false
namespace Go.Proofs.YtflkiddmakeabaaGreatDoor
open Go.RowKit Zp

set_option maxHeartbeats 1000000 in
theorem sgcd_any (a n : Nat) (ha : a ≤ 2147483647) (hn : n ≤ 2147483647) (w : World) :
    Calls Tryz.prog 121 #[vi a, vi n] w fun e w' => e = .returned (vi (Nat.gcd a n)) ∧ ∃ k, w' = w.drewN k := by
  go_enter Tryz.func121, Tryz.ntmps121
  go_wp2
  go_loopw [0, 1] (fun x y wr => ∃ (r s k : Nat), x = vi r ∧ y = vi s ∧ r ≤ 2147483647 ∧ s ≤ 2147483647 ∧ Nat.gcd r s = Nat.gcd a n ∧ wr = w.drewN k) (fun _ y _ => (intOf y).toNat)
  case atStart => exact ⟨a, n, 0, rfl, rfl, ha, hn, rfl, rfl⟩
  case round =>
    obtain ⟨r, s, k, rfl, rfl, hr, hs, hg, rfl⟩ := hrel
    have HG := Lib.hid hg
    clear hg
    by_cases h0 : s = 0
    · have HH := Lib.hid h0
      have t1 : ¬ (0 : Int) < (s : Int) := by omega
      clear h0
      go_wp2
      go_ret
      exact ⟨ret_int (by have := HG.out; rw [HH.out, Nat.gcd_zero_right] at this; rw [this]), k, rfl⟩
    · have t1 : (0 : Int) < (s : Int) := by omega
      have t2 : ¬ s = 0 := h0
      have t3 : ((s : Int) == 0) = false := by rw [beq_eq_false_iff_ne]; omega
      have e1 : (r : Int).tmod (s : Int) = ((r % s : Nat) : Int) := by rw [Int.tmod_eq_emod_of_nonneg (by omega), Int.natCast_emod]
      have hlt := Nat.mod_lt r (show 0 < s by omega)
      have hgs := gcd_step r s
      obtain ⟨m, hm⟩ : ∃ m, m = r % s := ⟨_, rfl⟩
      rw [← hm] at e1 hlt hgs
      have HGS := Lib.hid hgs
      clear hgs hm
      go_wp2
      go_region
      all_goals (
        go_wp2
        go_roundw
        case rel => exact ⟨s, m, k + 1, rfl, rfl, hs, by omega, by rw [HGS.out, HG.out], rfl⟩
        case measure => simp [intOf]; omega)
set_option maxHeartbeats 2000000 in
theorem sinv_any (a n : Nat) (ha0 : 0 < a) (ha : a ≤ 2147483647) (hn0 : 0 < n) (hn : n ≤ 2147483647) (hg : Nat.gcd a n = 1) (w : World) :
    Calls Tryz.prog 122 #[vi a, vi n] w fun e w' => (∃ m : Nat, e = .returned (vi m) ∧ m < n ∧ ∃ t : Int, (m : Int) * a = 1 + t * (n : Int)) ∧ w = w' := by
  have HG := Lib.hid hg
  clear hg
  go_enter Tryz.func122, Tryz.ntmps122
  go_wp2
  go_loop [5, 6, 7, 8] (fun x y r s => ∃ (g : Bool) (X Y R S : Nat), x = vi (sgnd g X) ∧ y = vi (- sgnd g Y) ∧ r = vi R ∧ s = vi S ∧ Euc a n g X Y R S) (fun _ _ _ s => (intOf s).toNat)
  case atStart => exact ⟨true, 1, 0, a, n, rfl, rfl, rfl, rfl, Euc.start a n ha0⟩
  case round =>
    obtain ⟨g, X, Y, R, S, rfl, rfl, rfl, rfl, he⟩ := hrel
    have HE := Lib.hid he
    have hX := he.Xle
    have hR := he.rle
    have hSle := he.sle
    obtain ⟨hY, hq⟩ := he.bounds
    clear he
    have hxb : -(X : Int) ≤ sgnd g X ∧ sgnd g X ≤ X := by unfold sgnd; cases g <;> simp <;> omega
    have hyb : -(Y : Int) ≤ sgnd g Y ∧ sgnd g Y ≤ Y := by unfold sgnd; cases g <;> simp <;> omega
    by_cases h0 : S = 0
    · have hE := HE.out
      rw [h0] at hE
      have hd := hE.done HG.out hn0
      obtain ⟨d1, d2, d3⟩ := hd
      have ex : ((sgnd g X).tmod n + n).tmod n = (sgnd g X) % (n : Int) := by
        have hb1 := Int.tmod_lt_of_pos (sgnd g X) (show (0 : Int) < n by omega)
        have hb2 := Int.lt_tmod_of_pos (sgnd g X) (show (0 : Int) < n by omega)
        rw [Int.tmod_eq_emod_of_nonneg (by omega), Int.add_emod_right, Int.tmod_eq_emod]
        split
        · rw [show ((0 : Nat) : Int) = 0 from rfl, Int.sub_zero, Int.emod_emod_of_dvd _ (Int.dvd_refl _)]
        · rw [Int.natAbs_natCast, Int.sub_emod, Int.emod_self, Int.sub_zero, Int.emod_emod_of_dvd _ (Int.dvd_refl _), Int.emod_emod_of_dvd _ (Int.dvd_refl _)]
      have hb1 := Int.tmod_lt_of_pos (sgnd g X) (show (0 : Int) < n by omega)
      have hb2 := Int.lt_tmod_of_pos (sgnd g X) (show (0 : Int) < n by omega)
      obtain ⟨m, hm⟩ := Int.eq_ofNat_of_zero_le d1
      rw [hm] at ex d2 d3
      have D3 := Lib.hid d3
      have t1 : ¬ (0 : Int) < (S : Int) := by omega
      have t3 : ((n : Int) == 0) = false := by rw [beq_eq_false_iff_ne]; omega
      have t4 : ¬ n = 0 := by omega
      obtain ⟨Z, hZ⟩ : ∃ Z, Z = sgnd g X := ⟨_, rfl⟩
      rw [← hZ] at ex hb1 hb2 ⊢
      have i1 : IntKind.i64.wrap (Z.tmod n + n) = Z.tmod n + n := IntWalk.i64_in _ (by omega)
      have i2 : IntKind.i64.wrap (Z.tmod n) = Z.tmod n := IntWalk.i64_in _ (by omega)
      clear d1 d3 hm hZ hE h0 hxb
      go_wp2
      go_ret
      exact ⟨⟨m, rfl, by omega, D3.out⟩, rfl⟩
    · have hS0 : 0 < S := by omega
      have hst := HE.out.step hS0
      have hq' := hq hS0
      have hrm := Nat.mod_lt R hS0
      have hdm := Nat.div_add_mod R S
      obtain ⟨Q, hQ⟩ : ∃ Q, Q = R / S := ⟨_, rfl⟩
      have e1 : (R : Int).tdiv (S : Int) = (Q : Int) := by rw [Int.tdiv_eq_ediv_of_nonneg (by omega), hQ, Int.natCast_ediv]
      rw [← hQ] at hst hq' hdm
      have e2 : (R : Int) - (Q : Int) * S = ((R % S : Nat) : Int) := by
        have h := congrArg (fun n : Nat => (n : Int)) hdm
        simp only [Int.natCast_add, Int.natCast_mul] at h
        rw [Int.mul_comm (S : Int)] at h
        omega
      have e3 : sgnd g X - (Q : Int) * (- sgnd g Y) = - sgnd (!g) (X + Q * Y) := by
        rw [sgnd_not, Int.neg_neg]
        unfold sgnd
        cases g
        · simp only [Bool.false_eq_true, if_false]
          rw [Int.natCast_add, Int.natCast_mul, Int.neg_neg, Int.neg_add]
          omega
        · simp only [if_true]
          rw [Int.natCast_add, Int.natCast_mul, Int.mul_neg]
          omega
      have hQS : Q * S ≤ R := by rw [Nat.mul_comm]; omega
      have hQY : Q * Y ≤ n := by omega
      have b1 : (Q : Int) * S = ((Q * S : Nat) : Int) := by rw [Int.natCast_mul]
      have b2 : (Q : Int) * (- sgnd g Y) = - sgnd g (Q * Y) := by
        unfold sgnd
        cases g
        · simp only [Bool.false_eq_true, if_false]
          rw [Int.neg_neg, Int.neg_neg, Int.natCast_mul]
        · simp only [if_true]
          rw [Int.natCast_mul, Int.mul_neg]
      have b3 : -((Q * Y : Nat) : Int) ≤ sgnd g (Q * Y) ∧ sgnd g (Q * Y) ≤ ((Q * Y : Nat) : Int) := by unfold sgnd; cases g <;> simp <;> omega
      have hQ1 : Q ≤ R := by rw [hQ]; exact Nat.div_le_self _ _
      have hm0 : (R % S : Nat) < S := hrm
      obtain ⟨M, hM⟩ : ∃ M, M = R % S := ⟨_, rfl⟩
      rw [← hM] at hst e2 hm0
      have f1 : sgnd g Y = - (- sgnd g Y) := by omega
      obtain ⟨U, hU⟩ : ∃ U, U = sgnd g X := ⟨_, rfl⟩
      obtain ⟨V, hV⟩ : ∃ V, V = - sgnd g Y := ⟨_, rfl⟩
      rw [← hU, ← hV] at e3
      rw [← hV] at b2
      have hx2 : - sgnd g Y = sgnd (!g) Y := by rw [sgnd_not]
      have HST := Lib.hid hst
      have HE3 := Lib.hid e3
      have HVV := Lib.hid (hV.trans hx2)
      have t1 : (0 : Int) < (S : Int) := by omega
      have t3 : ((S : Int) == 0) = false := by rw [beq_eq_false_iff_ne]; omega
      have t4 : ¬ S = 0 := by omega
      have i1 : IntKind.i64.wrap ((Q : Int) * S) = (Q : Int) * S := IntWalk.i64_in _ (by omega)
      have i2 : IntKind.i64.wrap ((Q : Int) * V) = (Q : Int) * V := IntWalk.i64_in _ (by omega)
      have i3 : IntKind.i64.wrap (U - (Q : Int) * V) = U - (Q : Int) * V := IntWalk.i64_in _ (by omega)
      have i4 : IntKind.i64.wrap (Q : Int) = (Q : Int) := IntWalk.i64_in _ (by omega)
      rw [← hU, ← hV]
      clear hst e3 hQ hdm hU hV hx2 f1 hM hq hq' hQS hrm hxb hyb b1 b2 b3
      go_wp2
      go_round
      case rel => exact ⟨!g, Y, X + Q * Y, S, M, by rw [HVV.out], by rw [HE3.out], rfl, rfl, HST.out⟩
      case measure => simp [intOf]; omega
end Go.Proofs.YtflkiddmakeabaaGreatDoor
