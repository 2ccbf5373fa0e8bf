/- The walk of (*Domain).spread: what a polynomial is at the powers of a root, by halves. -/
import Derived.Test.YtkhkoeibigpdnaaDoorDom
import Derived.Test.YtkhkoeibigpdnaaDoorMul
import Derived.Deep.RegionHeld3
set_option linter.unusedVariables false
namespace Go.Proofs.YtkhkoeibigpdnaaDoor
open Go.RowKit Zp

def SpreadTo (p : Nat) [NeZero p] (base m : Nat) (xs : List Int) (r : Fin p) (w : World) (e : Ending) (w' : World) : Prop :=
  ∃ v' ys, e = .returned v' ∧ Own w' base v' ys ∧ (∀ y ∈ ys, I64 y) ∧ els p ys = dft r m (els p xs) ∧ (m = 1 → ys = xs) ∧ (m ≠ 1 → ys = fvs (dft r m (els p xs))) ∧ Below w.heap.size w w'
def SpreadSpec (p S D b : Nat) [NeZero p] (n : Nat) (s : Fin p) (m : Nat) : Prop :=
  ∀ (w : World) (base : Nat) (v : Value) (xs : List Int) (r : Int), xs.length = m → (∀ x ∈ xs, I64 x) → I64 r → (m = 1 ∨ ∃ h, m = 2 * h ∧ pw (el p r) h = -1) → Dom w S D b p n s → Own w base v xs → base ≤ w.heap.size →
    Calls Tryd.prog 75 #[.pointer (some ⟨D, 0, none⟩), v, vi r] w fun e w' => SpreadTo p base m xs (el p r) w e w'

theorem dft_one {p : Nat} [NeZero p] (r x : Fin p) : dft r 1 [x] = [x] := by
  have : ev [x] (pw r 0) = x := by simp only [ev, pw_zero]; grind
  unfold dft tab
  rw [List.range_one, List.map_singleton, this]

theorem spread_one (p S D b : Nat) [NeZero p] (n : Nat) (s : Fin p) : SpreadSpec p S D b n s 1 := by
  intro w base v xs r hl hx hr _ hD ho hb
  obtain ⟨g, c, rfl, _, _⟩ := ho.block (by omega)
  have hd : els p xs = dft (el p r) 1 (els p xs) := by
    match xs, hl with
    | [x], _ => exact (dft_one _ _).symm
  have t1 : (((1 : Nat) : Int) == 1) = true := rfl
  rw [hl]
  have HL := Lib.hid hl
  have HD := Lib.hid hd
  clear hl hd
  go_enter Tryd.func75, Tryd.ntmps75
  go_wp2
  go_ret
  exact ⟨_, xs, rfl, by rw [HL.out] at ho; exact ho, hx, HD.out, fun _ => rfl, fun h => absurd rfl h, Below.refl _ _⟩

theorem grew_apart {wr w1 : World} {base : Nat} {v v' u : Value} {xs zs ys : List Int} (hd : ∀ g, v.ownBlock = some g → u.ownBlock ≠ some g) (hg : Grew wr w1 base v v' xs) (hv : Own wr base v zs) (hu : Own wr base u ys) :
    Own w1 base u ys ∧ ∀ g, v'.ownBlock = some g → u.ownBlock ≠ some g := by
  refine ⟨hu.grown hg.grown ?_, fun g hg' hu' => ?_⟩
  · cases e : u.ownBlock with
    | none => exact .inl rfl
    | some g => exact .inr fun h => hd g h.symm e
  · rcases hg.at_ with h | ⟨k, h1, h2⟩
    · exact hd g (h ▸ hg') hu'
    · rw [hg'] at h1
      injection h1 with h1
      have := (hu.lt g hu').2
      omega

def HalfRel (xs : List Int) (w : World) (ve vo i : Value) (wr : World) : Prop := ∃ j : Nat, j ≤ xs.length ∧ i = vi j ∧ Own wr w.heap.size ve (evI xs j) ∧ Own wr w.heap.size vo (odI xs j) ∧ (∀ g, ve.ownBlock = some g → vo.ownBlock ≠ some g) ∧ Below w.heap.size w wr
def JoinRel {p : Nat} [NeZero p] (r : Fin p) (l : List (Fin p)) (base m g : Nat) (x i : Value) (wr : World) : Prop := ∃ (j : Nat) (L : List (Fin p)), j ≤ m ∧ i = vi j ∧ x = vi (fv (pw r j)) ∧ OwnE wr base g (2 * m) L ∧ ∀ t, t < j → co L t = ev l (pw r t) ∧ co L (t + m) = ev l (pw r (t + m))

theorem join_step {p : Nat} [NeZero p] {l L : List (Fin p)} {R U V : Fin p} {t m : Nat} (htm : t < m) (hl : t + m < L.length) (h : ∀ j, j < t → co L j = ev l (pw R j) ∧ co L (j + m) = ev l (pw R (j + m))) (hU : U = ev l (pw R t)) (hV : V = ev l (pw R (t + m))) :
    ∀ j, j < t + 1 → co ((L.set t U).set (t + m) V) j = ev l (pw R j) ∧ co ((L.set t U).set (t + m) V) (j + m) = ev l (pw R (j + m)) := by
  intro j hj
  have e : ∀ x, co ((L.set t U).set (t + m) V) x = if x = t + m then V else if x = t then U else co L x := fun x => by
    rw [co_set _ _ _ (by simpa using hl), co_set _ _ _ (by omega)]
  rw [e, e, if_neg (by omega), if_neg (c := j + m = t) (by omega)]
  by_cases he : j = t
  · subst he
    rw [if_pos rfl, if_pos rfl]; exact ⟨hU, hV⟩
  · rw [if_neg he, if_neg (by omega)]; exact h j (by omega)
theorem join_done {p : Nat} [NeZero p] {l L : List (Fin p)} {R : Fin p} {m : Nat} (hl : L.length = 2 * m) (h : ∀ j, j < m → co L j = ev l (pw R j) ∧ co L (j + m) = ev l (pw R (j + m))) : L = dft R (2 * m) l := by
  refine ext_co (by rw [hl, dft_length]) fun i hi => ?_
  rw [dft, co_tab, if_pos (by omega)]
  by_cases h1 : i < m
  · exact (h i h1).1
  · have := (h (i - m) (by omega)).2
    rwa [show i - m + m = i from by omega] at this

set_option maxRecDepth 100000 in
set_option maxHeartbeats 2000000 in
theorem spread_step (p S D b : Nat) [NeZero p] (n : Nat) (s : Fin p) (m : Nat) (hm1 : 1 ≤ m) (hm2 : 2 * m ≤ 65536) (hpow : m = 1 ∨ ∃ h, m = 2 * h) (IH : SpreadSpec p S D b n s m) : SpreadSpec p S D b n s (2 * m) := by
  intro w base v xs r hl hx hr hcond hD ho hb
  have hrm : pw (el p r) m = -1 := by
    rcases hcond with h | ⟨h, e, e2⟩
    · omega
    · rw [show m = h from by omega]; exact e2
  have hcond2 : m = 1 ∨ ∃ h, m = 2 * h ∧ pw (el p r * el p r) h = -1 := hpow.imp id fun ⟨h, e⟩ => ⟨h, e, by
    rw [← hrm, e, pw_mul]
    congr 1
    simp only [pw]; grind⟩
  obtain ⟨g, c, rfl, hg1, hg2⟩ := ho.block (by omega)
  have hp2 := hD.fld.max
  have hsr := fun w' => @Own.below w w' base
  obtain ⟨R, hR⟩ : ∃ R, R = el p r := ⟨_, rfl⟩
  rw [← hR] at hrm hcond2 ⊢
  have HR := Lib.hid hR
  have HRM := Lib.hid hrm
  have HC2 := Lib.hid hcond2
  have HIH := Lib.hid IH
  have t0 : (((2 * m : Nat) : Int) == 1) = false := by rw [beq_eq_false_iff_ne]; omega
  rw [hl]
  have HL := Lib.hid hl
  clear hR hrm hcond hcond2 hpow IH hsr hl
  obtain ⟨N, hN⟩ : ∃ N, N = 2 * m := ⟨_, rfl⟩
  rw [← hN] at t0 hm2 HL ⊢
  have HN := Lib.hid hN
  have hN2 : m < N := by omega
  have hN3 : (N : Int) / 2 = (m : Int) := by omega
  clear hN
  go_enter Tryd.func75, Tryd.ntmps75
  go_wp2_with fail
  go_loopw [8, 9, 24] (fun ve vo i wr => HalfRel xs w ve vo i wr) (fun _ _ i _ => N - (intOf i).toNat)
  case atStart => exact ⟨0, Nat.zero_le _, rfl, World.ownsRow_nil _ _ _ _, World.ownsRow_nil _ _ _ _, fun g h => by simp [Value.ownBlock] at h, Below.refl _ _⟩
  case round =>
    obtain ⟨j, hj, rfl, hve, hvo, hap, hbw⟩ := hrel
    rw [HL.out] at hj
    by_cases hlt : j < N
    · have hjx : j < xs.length := by rw [HL.out]; exact hlt
      have hown := ho.below hbw
      have hcell := hown.at_ rfl j hjx
      have hI := hx _ (List.getElem_mem hjx)
      have hle1 : (evI xs j).length < 17592186044416 := by simp [evI]; omega
      have hle2 : (odI xs j).length < 17592186044416 := by simp [odI]; omega
      have hpar : j % 2 = 0 ∨ ¬ j % 2 = 0 := by omega
      rcases hpar with hev | hod
      · obtain ⟨e1, e2⟩ := evI_even hev hjx
        have t1 : ((j : Int) % 2 == 0) = true := by rw [beq_iff_eq]; omega
        obtain ⟨x, hxj⟩ : ∃ x, x = xs[j] := ⟨_, rfl⟩
        rw [← hxj] at hI hcell e1
        have E1 := Lib.hid e1
        have E2 := Lib.hid e2
        have HAP := Lib.hid hap
        clear hxj e1 e2 hev hap
        go_wp2_with (at_builtin; refine wpList_app1 wr x rfl _ _ rfl w.heap.size _ _ rfl rfl hve hle1 hbw.size ?_; intro v' w1 hg)
        obtain ⟨hvo1, hap1⟩ := grew_apart HAP.out hg hve hvo
        go_roundw
        case rel => exact ⟨j + 1, by rw [HL.out]; omega, by go_num, by rw [← E1.out]; exact hg.own, by rw [E2.out]; exact hvo1, hap1, hg.below hbw hve (Nat.le_refl _) hbw.size⟩
        case measure => simp [intOf]; omega
      · obtain ⟨e1, e2⟩ := odI_odd hod hjx
        have t1 : ((j : Int) % 2 == 0) = false := by rw [beq_eq_false_iff_ne]; omega
        obtain ⟨x, hxj⟩ : ∃ x, x = xs[j] := ⟨_, rfl⟩
        rw [← hxj] at hI hcell e1
        have E1 := Lib.hid e1
        have E2 := Lib.hid e2
        have hap' := fun (g : Nat) h1 h2 => hap g h2 h1
        have HAP := Lib.hid hap'
        clear hxj e1 e2 hod hap hap'
        go_wp2_with (at_builtin; refine wpList_app1 wr x rfl _ _ rfl w.heap.size _ _ rfl rfl hvo hle2 hbw.size ?_; intro v' w1 hg)
        obtain ⟨hve1, hap1⟩ := grew_apart HAP.out hg hvo hve
        go_roundw
        case rel => exact ⟨j + 1, by rw [HL.out]; omega, by go_num, by rw [E2.out]; exact hve1, by rw [← E1.out]; exact hg.own, fun g h1 h2 => hap1 g h2 h1, hg.below hbw hvo (Nat.le_refl _) hbw.size⟩
        case measure => simp [intOf]; omega
    · obtain rfl : j = N := by omega
      obtain ⟨hE1, hO1⟩ := els_evI (p := p) (xs := xs) (m := m) (by rw [HL.out, HN.out])
      rw [← HN.out] at hE1 hO1
      obtain ⟨hE2, hO2⟩ := evI_mem (P := I64) (by constructor <;> omega) hx j
      have hE3 : (evI xs j).length = m := by have := HN.out; simp [evI]; omega
      have hO3 : (odI xs j).length = m := by have := HN.out; simp [odI]; omega
      obtain ⟨E, hE⟩ : ∃ E, E = evI xs j := ⟨_, rfl⟩
      obtain ⟨O, hO⟩ : ∃ O, O = odI xs j := ⟨_, rfl⟩
      rw [← hE] at hE1 hE2 hE3 hve
      rw [← hO] at hO1 hO2 hO3 hvo
      have HE1 := Lib.hid hE1
      have HO1 := Lib.hid hO1
      have HE3 := Lib.hid hE3
      have HO3 := Lib.hid hO3
      clear hE1 hO1 hE3 hO3 hE hO hap
      have hDr := hD.below hbw hD.le
      have hcd := hDr.c0
      have hcb := hDr.fld.c0
      go_wp2_with fail
      refine (mul_any p hp2 b r r hr hr _ hcb).mono ?_
      rintro e w1 ⟨rfl, k1, rfl⟩
      rw [← HR.out]
      have hsq : I64 (fv (R * R)) := i64_fv _ hp2
      have hc2 : m = 1 ∨ ∃ h, m = 2 * h ∧ pw (el p (fv (R * R))) h = -1 := by rw [el_fv]; exact HC2.out
      have HC3 := Lib.hid hc2
      clear hc2
      go_wp2_with fail
      refine (HIH.out _ w.heap.size _ E (fv (R * R)) HE3.out hE2 hsq HC3.out (hDr.drewN k1) (hve.drewN k1) hbw.size).mono ?_
      rintro e w2 ⟨ve2, ys, rfl, hve2, hys, hysd, _, _, hb2⟩
      have hDs := (hDr.drewN k1).below hb2 (hDr.drewN k1).le
      have hvo1 := (hvo.drewN k1).below hb2
      have hbw2 : Below w.heap.size w w2 := (below_drewN hbw k1).trans (hb2.mono hbw.size)
      go_wp2_with fail
      refine (HIH.out _ w.heap.size _ O (fv (R * R)) HO3.out hO2 hsq HC3.out hDs hvo1 hbw2.size).mono ?_
      rintro e w3 ⟨vo2, zs, rfl, hvo2, hzs, hzsd, _, _, hb3⟩
      have hDt := hDs.below hb3 hDs.le
      have hve3 := hve2.below hb3
      have hbw3 : Below w.heap.size w w3 := hbw2.trans (hb3.mono hbw2.size)
      rw [el_fv, HE1.out] at hysd
      rw [el_fv, HO1.out] at hzsd
      have hysl : ys.length = m := by have := congrArg List.length hysd; rw [dft_length] at this; simpa using this
      have hzsl : zs.length = m := by have := congrArg List.length hzsd; rw [dft_length] at this; simpa using this
      have HYS := Lib.hid hysd
      have HZS := Lib.hid hzsd
      have HYL := Lib.hid hysl
      have HZL := Lib.hid hzsl
      clear hDr hcd hcb hve hvo hve2 hDs hvo1 hbw hbw2 hb2 hb3 hysd hzsd
      obtain ⟨gy, cy, e1, _, _⟩ := hve3.block (by rw [hysl]; omega)
      obtain ⟨gz, cz, e2, _, _⟩ := hvo2.block (by rw [hzsl]; omega)
      rw [hysl] at e1
      rw [hzsl] at e2
      subst e1 e2
      clear hysl hzsl
      have hmk := make_ints j j (Nat.le_refl _) (by omega)
      have hOE := OwnE.made (p := p) w3 w.heap.size j hbw3.size (by omega)
      rw [HN.out] at hOE
      have hDl := hDt.le
      go_wp2
      go_loopw [14, 60] (fun x i wr => JoinRel R (els p xs) w.heap.size m w3.heap.size x i wr ∧ Below w3.heap.size w3 wr) (fun _ i _ => m - (intOf i).toNat)
      case atStart => exact ⟨⟨0, _, Nat.zero_le _, rfl, by rw [pw_zero, fv_one hDt.fld.two], by rw [HN.out]; exact hOE, fun t ht => absurd ht (by omega)⟩, (Below.refl _ _).alloc (Nat.le_refl _) _⟩
      case round =>
        obtain ⟨⟨t, L, ht, rfl, rfl, hoe, hco⟩, hbl⟩ := hrel
        have hDw := hDt.below hbl hDl
        have hcd := hDw.c0
        have hcb := hDw.fld.c0
        have HCO := Lib.hid hco
        clear hco
        by_cases hlt : t < m
        · have hty : t < ys.length := by rw [HYL.out]; exact hlt
          have htz : t < zs.length := by rw [HZL.out]; exact hlt
          have hc1 := (hve3.below hbl).at_ HYL.out.symm t hty
          have hc2 := (hvo2.below hbl).at_ HZL.out.symm t htz
          have ha0 := hys _ (List.getElem_mem hty)
          have hz0 := hzs _ (List.getElem_mem htz)
          have hA : el p ys[t] = ev (evens (els p xs)) (pw (R * R) t) := by
            have h : co (els p ys) t = el p ys[t] := by rw [co_of_lt (by simpa using hty)]; simp
            rw [← h, HYS.out, dft, co_tab, if_pos hlt]
          have hZ : el p zs[t] = ev (odds (els p xs)) (pw (R * R) t) := by
            have h : co (els p zs) t = el p zs[t] := by rw [co_of_lt (by simpa using htz)]; simp
            rw [← h, HZS.out, dft, co_tab, if_pos hlt]
          obtain ⟨a0, hae⟩ : ∃ a, a = ys[t] := ⟨_, rfl⟩
          obtain ⟨z0, hze⟩ : ∃ z, z = zs[t] := ⟨_, rfl⟩
          rw [← hae] at hc1 ha0 hA
          rw [← hze] at hc2 hz0 hZ
          obtain ⟨X, hX⟩ : ∃ X, X = pw R t := ⟨_, rfl⟩
          rw [← hX]
          obtain ⟨Y, hY⟩ : ∃ Y, Y = X * el p z0 := ⟨_, rfl⟩
          obtain ⟨U, hU⟩ : ∃ U, U = el p a0 + Y := ⟨_, rfl⟩
          obtain ⟨V, hV⟩ : ∃ V, V = el p a0 - Y := ⟨_, rfl⟩
          have hU2 : U = ev (els p xs) (pw R t) := by rw [hU, hY, hX, hA, hZ]; exact (dft_lo R _ t).symm
          have hV2 : V = ev (els p xs) (pw R (t + m)) := by rw [hV, hY, hX, hA, hZ]; exact (dft_hi HRM.out _ t).symm
          have iX : I64 (fv X) := i64_fv X hp2
          have iY : I64 (fv Y) := i64_fv Y hp2
          have hmul : ∀ W : World, W.cell? ⟨b, 0, none⟩ = some (vi p) → Calls Tryd.prog 70 #[.pointer (some ⟨b, 0, none⟩), vi (fv X), vi z0] W fun e w' => e = .returned (vi (fv Y)) ∧ ∃ k, w' = W.drewN k := fun W h => by
            have := mul_any p hp2 b (fv X) z0 iX hz0 W h
            rw [el_fv, ← hY] at this; exact this
          have hadd : ∀ W : World, W.cell? ⟨b, 0, none⟩ = some (vi p) → Calls Tryd.prog 73 #[.pointer (some ⟨b, 0, none⟩), vi a0, vi (fv Y)] W fun e w' => e = .returned (vi (fv U)) ∧ ∃ k, w' = W.drewN k := fun W h => by
            have := add_any p hp2 b a0 (fv Y) ha0 iY W h
            rw [el_fv, ← hU] at this; exact this
          have hsub : ∀ W : World, W.cell? ⟨b, 0, none⟩ = some (vi p) → Calls Tryd.prog 109 #[.pointer (some ⟨b, 0, none⟩), vi a0, vi (fv Y)] W fun e w' => e = .returned (vi (fv V)) ∧ W = w' := fun W h => by
            have := sub_any p hp2 b a0 (fv Y) ha0 iY W h
            rw [el_fv, ← hV] at this; exact this
          have hX1 : X * R = pw R (t + 1) := by rw [hX, pw_succ]
          have hnx : ∀ W : World, W.cell? ⟨b, 0, none⟩ = some (vi p) → Calls Tryd.prog 70 #[.pointer (some ⟨b, 0, none⟩), vi (fv X), vi r] W fun e w' => e = .returned (vi (fv (pw R (t + 1)))) ∧ ∃ k, w' = W.drewN k := fun W h => by
            have := mul_any p hp2 b (fv X) r iX hr W h
            rw [el_fv, ← HR.out, hX1] at this; exact this
          have HMUL := Lib.hid hmul
          have HADD := Lib.hid hadd
          have HSUB := Lib.hid hsub
          have HNX := Lib.hid hnx
          have HU := Lib.hid hU2
          have HV := Lib.hid hV2
          clear hmul hadd hsub hnx hX1 hU2 hV2 hU hV hY hX hae hze hA hZ
          have i1 : (0 : Int) ≤ t := by omega
          have i2 : (t : Int) < m := by omega
          have i3 : (t : Int) < j := by omega
          have i4 : IntKind.i64.wrap ((t : Int) + m) = (t : Int) + m := IntWalk.i64_in _ (by omega)
          have i5 : (0 : Int) ≤ (t : Int) + m := by omega
          have i6 : (t : Int) + m < j := by have := HN.out; omega
          have i7 : ((t : Int) + m).toNat = t + m := by omega
          have i9 : IntKind.i64.wrap (m : Int) = (m : Int) := IntWalk.i64_in _ (by constructor <;> omega)
          have hf1 := hoe.frozen t
          have hf2 := hoe.frozen (t + m)
          have ho1 := hoe.at_ t (by omega)
          have ho2 := hoe.at_ (t + m) (by omega)
          have hne1 : ¬ D = w3.heap.size := by have := hDt.lt; omega
          have hne3 : ¬ gy = w3.heap.size := by have := (hve3.lt gy rfl).2; omega
          have hne2 : ¬ b = w3.heap.size := by have := hDt.fld.lt; omega
          have hmx : Tryd.prog.follows .mixedOrders = true := by kernel_rfl
          go_wp2
          go_quiet ((go_at_call 70; exact Calls.quiet_of (HMUL.out _ (by exact hcb))))
          go_wp2
          go_region_held3 (fun w' => w'.cell? ⟨D, 0, none⟩ = some (.pointer (some ⟨b, 0, none⟩)) ∧ w'.cell? ⟨gy, t, none⟩ = some (vi a0) ∧ w'.cell? ⟨b, 0, none⟩ = some (vi p)) (first | exact ⟨hcd, hc1, hcb⟩ | exact ⟨setCell_keep hcd hne1, setCell_keep hc1 hne3, setCell_keep hcb hne2⟩ | exact ⟨setCell_keep (setCell_keep hcd hne1) hne1, setCell_keep (setCell_keep hc1 hne3) hne3, setCell_keep (setCell_keep hcb hne2) hne2⟩) ((first | (go_at_call 73; refine (HADD.out _ (by exact hcb)).mono ?_; rintro e w' ⟨rfl, k3, rfl⟩) | (go_at_call 109; refine (HSUB.out _ (by exact hcb)).mono ?_; rintro e w' ⟨rfl, rfl⟩)))
          clear i4 i9 i5 i6 i7
          go_wp2_with fail
          refine (HNX.out _ (by exact setCell_keep (setCell_keep hcb hne2) hne2)).mono ?_
          rintro e w5 ⟨rfl, k5, rfl⟩
          go_wp2
          go_roundw
          case rel =>
            have h1 : OwnE (wr.drewN (nq + 1 + k3)) w.heap.size w3.heap.size (2 * m) L := hoe
            have h2 := (h1.store t U).store (t + m) V
            refine ⟨⟨t + 1, _, by omega, by go_num, rfl, h2, join_step hlt (by rw [hoe.1]; omega) HCO.out HU.out HV.out⟩, ?_⟩
            exact below_drewN (((below_drewN hbl (nq + 1 + k3)).setCell (p := ⟨w3.heap.size, t, none⟩) (Nat.le_refl _) _).setCell (p := ⟨w3.heap.size, t + m, none⟩) (Nat.le_refl _) _) k5
          case measure => simp [intOf]; omega
        · obtain rfl : t = m := by omega
          have hLd : L = dft R (2 * t) (els p xs) := join_done hoe.1 HCO.out
          have HLD := Lib.hid hLd
          clear hLd
          go_wp2
          go_ret
          have ho3 := hoe.2.more hb
          rw [← HN.out] at ho3
          refine ⟨_, fvs L, rfl, ho3, i64_fvs L hp2, ?_, fun h => by have := HN.out; omega, fun _ => ?_, hbw3.trans (hbl.mono hbw3.size)⟩
          · rw [els_fvs, HN.out]; exact HLD.out
          · rw [HN.out]; exact congrArg fvs HLD.out

/-- a power of two: what a polynomial is at the powers of a root -/
theorem spread_any (p S D b : Nat) [NeZero p] (n : Nat) (s : Fin p) : ∀ k, k ≤ 16 → SpreadSpec p S D b n s (2 ^ k)
  | 0, _ => spread_one p S D b n s
  | k + 1, hk => by
    have h1 : 2 ^ k ≤ 2 ^ 15 := Nat.pow_le_pow_right (by omega) (by omega)
    have h2 : 1 ≤ 2 ^ k := Nat.pow_pos (by omega)
    rw [Nat.pow_succ, Nat.mul_comm]
    refine spread_step p S D b n s (2 ^ k) h2 (by omega) ?_ (spread_any p S D b n s k (by omega))
    cases k with
    | zero => exact .inl rfl
    | succ k => exact .inr ⟨2 ^ k, by rw [Nat.pow_succ, Nat.mul_comm]⟩
end Go.Proofs.YtkhkoeibigpdnaaDoor
