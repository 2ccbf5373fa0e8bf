/- Walks: Field.Sqrt; the law FieldSquares. -/
import Derived.Test.YtbafkfnceednlaaDoorLawF1
import Derived.Test.YtbafkfnceednlaaDoorSq
set_option linter.unusedVariables false
namespace Go.Proofs.YtbafkfnceednlaaDoor
open Go.RowKit Zp

theorem ts_done {p : Nat} [NeZero p] {a R E U : Fin p} {t : Nat} (h : TS a R E U t) (hE : E = 1) : R * R = a := by rw [h.sq, hE]; grind
theorem sq_ne {p : Nat} [NeZero p] {R X : Fin p} (h : R * R = X) (hX : X ≠ 0) : R ≠ 0 := fun h0 => hX (by rw [← h, h0]; grind)
theorem neg_sq {p : Nat} [NeZero p] (R : Fin p) : -R * -R = R * R := by grind
theorem neg_fv {p : Nat} [NeZero p] {R : Fin p} (h : R ≠ 0) : fv (-R) = (p : Int) - fv R := by
  have hf1 := fv_nonneg R
  have hf2 := fv_lt R
  have hf3 : fv R ≠ 0 := fun h0 => h (fv_eq_zero.1 h0)
  have e1 : -R = 0 - R := by grind
  rw [e1, fv_sub', fv_zero, Int.zero_add, Int.emod_eq_of_lt (by omega) (by omega)]
abbrev RootIs (r : Int) (ok : Bool) : Ending := .returned (.tuple #[vi r, .bool ok])
set_option maxHeartbeats 1000000 in
theorem sqrt_zero (p S b : Nat) [NeZero p] (m : Int) (hm : I64 m) (h : el p m = 0) (w : World) (F : Fld w S b p) :
    Calls Tryd.prog 39 #[.pointer (some ⟨b, 0, none⟩), vi m] w fun e w' => e = RootIs 0 true ∧ w = w' := by
  have hp2 := F.max
  have hc0 := F.c0
  have HOF := Lib.hid (of_el p hp2 b m hm w hc0)
  have t1 : (fv (el p m) == 0) = true := by rw [h]; rfl
  clear h
  go_enter Tryd.func39, Tryd.ntmps39
  go_wp2_with fail
  refine (HOF.out).mono ?_
  rintro e w' ⟨rfl, rfl⟩
  go_wp2
  go_ret2
  exact ⟨rfl, rfl⟩

theorem half_pow (p b : Nat) [NeZero p] (hp1 : 2 ≤ p) (hp2 : p ≤ 2147483647) (X : Fin p) (w : World) (hc : w.cell? ⟨b, 0, none⟩ = some (vi p)) (n : Nat) (hn : n ≤ 2147483647) :
    Calls Tryd.prog 65 #[.pointer (some ⟨b, 0, none⟩), vi (fv X), vi n] w fun e w' => e = .returned (vi (fv (pw X n))) ∧ w = w' := by
  have h := power_any p hp1 hp2 b (fv X) n (i64_fv _ hp2) (by constructor <;> omega) (by omega) w hc
  rw [el_fv, Int.toNat_natCast] at h
  exact h
theorem fmul (p b : Nat) [NeZero p] (hp2 : p ≤ 2147483647) (X Y : Fin p) (w : World) (hc : w.cell? ⟨b, 0, none⟩ = some (vi p)) :
    Calls Tryd.prog 22 #[.pointer (some ⟨b, 0, none⟩), vi (fv X), vi (fv Y)] w fun e w' => e = .returned (vi (fv (X * Y))) ∧ ∃ k, w' = w.drewN k := by
  have h := mul_any p hp2 b (fv X) (fv Y) (i64_fv _ hp2) (i64_fv _ hp2) w hc
  rw [el_fv, el_fv] at h
  exact h

set_option maxHeartbeats 1000000 in
theorem sqrt_no (p S b : Nat) [NeZero p] (m : Int) (hm : I64 m) (h : el p m ≠ 0) (h1 : pw (el p m) ((p - 1) / 2) ≠ 1) (w : World) (F : Fld w S b p) :
    Calls Tryd.prog 39 #[.pointer (some ⟨b, 0, none⟩), vi m] w fun e w' => e = RootIs 0 false ∧ w = w' := by
  have hp1 := F.two
  have hp2 := F.max
  have hc0 := F.c0
  have HOF := Lib.hid (of_el p hp2 b m hm w hc0)
  generalize el p m = X at h h1 HOF
  have t1 : (fv X == 0) = false := by rw [beq_eq_false_iff_ne]; exact fun e => h (fv_eq_zero.1 e)
  obtain ⟨n, hn⟩ : ∃ n, n = (p - 1) / 2 := ⟨_, rfl⟩
  rw [← hn] at h1
  have hn5 : n ≤ 2147483647 := by omega
  have hpw := fun w hc => half_pow p b hp1 hp2 X w hc n hn5
  have t2 : (fv (pw X n) != 1) = true := by rw [bne_iff_ne]; exact fun e => h1 ((fv_eq_one hp1).1 e)
  generalize pw X n = Y at hpw t2
  have HPW := Lib.hid hpw
  have e3 : ((p : Int) - 1).tdiv 2 = (n : Int) := by rw [Int.tdiv_eq_ediv_of_nonneg (by omega)]; omega
  have e4 : ((p : Int) - 1) / 2 = (n : Int) := by omega
  have hnp : n ≤ p := by omega
  clear h h1 hpw hn
  go_enter Tryd.func39, Tryd.ntmps39
  go_wp2_with fail
  refine (HOF.out).mono ?_
  rintro e w' ⟨rfl, rfl⟩
  go_wp2_with fail
  refine (HPW.out _ hc0).mono ?_
  rintro e w' ⟨rfl, rfl⟩
  go_wp2
  go_ret2
  exact ⟨rfl, rfl⟩

/-- a root is told, the less of the two -/
def RootOf (p : Nat) [NeZero p] (X : Fin p) (w : World) (e : Ending) (w' : World) : Prop := (∃ R : Fin p, R * R = X ∧ fv R ≤ (p : Int) - fv R ∧ e = RootIs (fv R) true) ∧ ∃ k, w' = w.drewN k
def HalfRel (N : Nat) (o t : Value) : Prop := ∃ a b : Nat, 1 ≤ a ∧ b ≤ 2147483647 ∧ N = a * 2 ^ b ∧ o = vi a ∧ t = vi b
def TSRel (p : Nat) [NeZero p] (X : Fin p) (w : World) (t u r e : Value) (wr : World) : Prop := ∃ (T : Nat) (U R E : Fin p) (m : Nat), T ≤ 2147483647 ∧ TS X R E U T ∧ t = vi T ∧ u = vi (fv U) ∧ r = vi (fv R) ∧ e = vi (fv E) ∧ wr = w.drewN m
def SqRel (p : Nat) [NeZero p] (E : Fin p) (T : Nat) (w : World) (k x : Value) (wr : World) : Prop := ∃ K m : Nat, K ≤ T - 1 ∧ (∀ i, i < K → pw E (2 ^ i) ≠ 1) ∧ k = vi K ∧ x = vi (fv (pw E (2 ^ K))) ∧ wr = w.drewN m
def StRel (p : Nat) [NeZero p] (U : Fin p) (D : Nat) (w : World) (s i : Value) (wr : World) : Prop := ∃ I m : Nat, I ≤ D ∧ s = vi (fv (pw U (2 ^ I))) ∧ i = vi I ∧ wr = w.drewN m
theorem lt_two_pow' (n : Nat) : n < 2 ^ n := Nat.lt_two_pow_self

set_option maxRecDepth 100000 in
set_option maxHeartbeats 1500000 in
theorem sqrt_yes (p S b : Nat) [NeZero p] (m : Int) (hm : I64 m) (h : el p m ≠ 0) (h1 : pw (el p m) ((p - 1) / 2) = 1) (w : World) (F : Fld w S b p) :
    Calls Tryd.prog 39 #[.pointer (some ⟨b, 0, none⟩), vi m] w fun e w' => RootOf p (el p m) w e w' := by
  have hp1 := F.two
  have h3 := F.three
  have hp2 := F.max
  have hc0 := F.c0
  have hc2 := F.c2
  have hpr := F.prime
  have hodd : (p - 1) % 2 = 0 := by
    rcases Nat.mod_two_eq_zero_or_one p with h2 | h2
    · exact absurd ((isPrime_iff p).1 hpr).2 (fun hd => hd 2 (by omega) (by omega) h2)
    · omega
  have HOF := Lib.hid ((of_el p hp2 b m hm w hc0).mono fun e w' (hh : _ ∧ _) => (⟨hh.1, hh.2.symm⟩ : e = .returned (vi (fv (el p m))) ∧ w = w'))
  generalize el p m = X at h h1 HOF ⊢
  have t1 : (fv X == 0) = false := by rw [beq_eq_false_iff_ne]; exact fun e => h (fv_eq_zero.1 e)
  obtain ⟨n, hn⟩ : ∃ n, n = (p - 1) / 2 := ⟨_, rfl⟩
  have hn5 : n ≤ 2147483647 := by omega
  have hpw := fun w hc => half_pow p b hp1 hp2 X w hc n hn5
  have t2 : (fv (pw X n) != 1) = false := by rw [hn, h1, fv_one hp1]; rfl
  generalize pw X n = Y at hpw t2
  have HPW := Lib.hid hpw
  have e3 : ((p : Int) - 1).tdiv 2 = (n : Int) := by rw [Int.tdiv_eq_ediv_of_nonneg (by omega)]; omega
  have e4 : ((p : Int) - 1) / 2 = (n : Int) := by omega
  have hnp : n ≤ p := by omega
  have hgo : Ord (el p (genN p : Int)) (p - 1) := (genN_is hpr).2.2.1
  have hgl := (genN_is hpr).2.1
  have hfvg : fv (el p (genN p : Int)) = (genN p : Int) := el_natCast_of_lt hgl
  rw [← hfvg] at hc2
  generalize el p (genN p : Int) = g at hgo hc2 hfvg
  have HGO := Lib.hid hgo
  have HPR := Lib.hid hpr
  have H := Lib.hid h
  have H1 := Lib.hid h1
  have HODD := Lib.hid hodd
  have HPOW := Lib.hid (fun X w hc n hn => half_pow p b hp1 hp2 X w hc n hn)
  have HMUL := Lib.hid (fun X Y w hc => fmul p b hp2 X Y w hc)
  clear h h1 hpw hgo hpr hfvg hgl hodd hn
  go_enter Tryd.func39, Tryd.ntmps39
  go_wp2_with fail
  refine (HOF.out).mono ?_
  rintro e w' ⟨rfl, rfl⟩
  go_wp2_with fail
  refine (HPW.out _ hc0).mono ?_
  rintro e w' ⟨rfl, rfl⟩
  clear e3 e4
  go_wp2
  clear t2
  go_loop [6, 7] (fun o t => HalfRel (p - 1) o t) (fun o _ => (intOf o).toNat)
  case atStart => exact ⟨p - 1, 0, by omega, by omega, by simp, by go_num, rfl⟩
  case round =>
    obtain ⟨a, t, ha, ht, hat, rfl, rfl⟩ := hrel
    have hap : a ≤ p - 1 := by rw [hat]; exact Nat.le_mul_of_pos_right _ (Nat.pow_pos (by omega))
    have htp : t < p - 1 := by
      have h2 := lt_two_pow' t
      have h4 : 2 ^ t ≤ a * 2 ^ t := Nat.le_mul_of_pos_left _ ha
      omega
    obtain ⟨bt, hbt⟩ : ∃ bt, bt = a % 2 := ⟨_, rfl⟩
    obtain ⟨a2, ha2⟩ : ∃ a2, a2 = a / 2 := ⟨_, rfl⟩
    have q1 : (a : Int).tmod 2 = (bt : Int) := by rw [Int.tmod_eq_emod_of_nonneg (by omega)]; omega
    have q2 : (a : Int) % 2 = (bt : Int) := by omega
    have q3 : (a : Int).tdiv 2 = (a2 : Int) := by rw [Int.tdiv_eq_ediv_of_nonneg (by omega)]; omega
    have q4 : (a : Int) / 2 = (a2 : Int) := by omega
    by_cases hb0 : bt = 0
    · have q5 : ((bt : Int) == 0) = true := by rw [hb0]; rfl
      have hh := halving hat (by omega)
      rw [← ha2] at hh
      have h21 : 1 ≤ a2 ∧ a2 < a := by omega
      have HH := Lib.hid hh
      have H21 := Lib.hid h21
      clear hh hat hbt ha2 hb0 h21
      go_wp2
      go_round
      case rel => exact ⟨a2, t + 1, H21.out.1, by omega, HH.out, rfl, by go_num⟩
      case measure => have := H21.out; simp [intOf]; omega
    · have q5 : ((bt : Int) == 0) = false := by rw [beq_eq_false_iff_ne]; omega
      have ht1 : 1 ≤ t := by
        rcases Nat.eq_zero_or_pos t with h0 | h0
        · rw [h0, Nat.pow_zero, Nat.mul_one] at hat
          have := HODD.out
          omega
        · exact h0
      have hts := TS.start HPR.out HGO.out (odd := a) (t := t) (by omega) ht1 hat H1.out
      obtain ⟨a3, ha3⟩ : ∃ a3, a3 = (a + 1) / 2 := ⟨_, rfl⟩
      rw [← ha3] at hts
      have q6 : ((a : Int) + 1).tdiv 2 = (a3 : Int) := by rw [Int.tdiv_eq_ediv_of_nonneg (by omega)]; omega
      have q7 : ((a : Int) + 1) / 2 = (a3 : Int) := by omega
      have h31 : a3 ≤ a := by omega
      have HTS := Lib.hid hts
      clear hts hat hbt ha2 hb0 ha3
      go_wp2_with fail
      refine (HPOW.out g _ hc0 a (by omega)).mono ?_
      rintro e w' ⟨rfl, rfl⟩
      go_wp2_with fail
      refine (HPOW.out X _ hc0 a3 (by omega)).mono ?_
      rintro e w' ⟨rfl, rfl⟩
      go_wp2_with fail
      refine (HPOW.out X _ hc0 a (by omega)).mono ?_
      rintro e w' ⟨rfl, rfl⟩
      go_wp2
      clear q1 q2 q3 q4 q5 q6 q7
      go_loopw [7, 8, 9, 10, 11, 12, 13, 74] (fun t u r e _ _ _ _ wr => TSRel p X w t u r e wr) (fun t _ _ _ _ _ _ _ _ => (intOf t).toNat)
      case atStart => exact ⟨t, _, _, _, 0, by omega, HTS.out, rfl, rfl, rfl, rfl, rfl⟩
      case round =>
        obtain ⟨T, U, R, E, mm, hT, hts, rfl, rfl, rfl, rfl, rfl⟩ := hrel
        have HT2 := Lib.hid hts
        have hT1 := hts.pos
        clear hts
        by_cases hE : E = 1
        · have r1 : (fv E != 1) = false := by rw [hE, fv_one hp1]; rfl
          have hsq := ts_done HT2.out hE
          have hneg := neg_fv (sq_ne hsq H.out)
          have hnsq := (neg_sq R).trans hsq
          have HN := Lib.hid hneg
          have HS := Lib.hid hsq
          have HS2 := Lib.hid hnsq
          clear hE hsq hneg hnsq
          have hf1 := fv_nonneg R
          have hf2 := fv_lt R
          by_cases hle : fv R ≤ (p : Int) - fv R
          · go_wp2
            go_ret2
            exact ⟨⟨R, HS.out, hle, rfl⟩, _, rfl⟩
          · go_wp2
            go_ret2
            exact ⟨⟨-R, HS2.out, by rw [HN.out]; omega, by rw [HN.out]; rfl⟩, _, rfl⟩
        · have r1 : (fv E != 1) = true := by rw [bne_iff_ne]; exact fun e => hE ((fv_eq_one hp1).1 e)
          have HE := Lib.hid hE
          clear hE
          go_wp2
          go_loopw [11, 12] (fun k x wr => SqRel p E T w k x wr) (fun k _ _ => T - (intOf k).toNat)
          case atStart => exact ⟨0, mm, Nat.zero_le _, fun i hi => absurd hi (by omega), rfl, by rw [Nat.pow_zero, pw_one], rfl⟩
          case round =>
            obtain ⟨K, m2, hK, hno, rfl, rfl, rfl⟩ := hrel
            have HNO := Lib.hid hno
            clear hno
            by_cases hx : pw E (2 ^ K) = 1
            · have r2 : (fv (pw E (2 ^ K)) != 1) = false := by rw [hx, fv_one hp1]; rfl
              have hK1 : 1 ≤ K := by
                rcases Nat.eq_zero_or_pos K with h0 | h0
                · rw [h0, Nat.pow_zero, pw_one] at hx; exact absurd hx HE.out
                · exact h0
              have hst := HT2.out.step HPR.out hK1 hK hx (HNO.out (K - 1) (by omega))
              have HST := Lib.hid hst
              clear hst hx
              obtain ⟨D, hD⟩ : ∃ D, D = T - K - 1 := ⟨_, rfl⟩
              have eD : (T : Int) - K - 1 = (D : Int) := by omega
              rw [← hD] at HST
              have hDT : D ≤ T := by omega
              clear hD
              go_wp2
              go_loopw [13, 74] (fun s i wr => StRel p U D w s i wr) (fun _ i _ => D - (intOf i).toNat)
              case atStart => exact ⟨0, m2, Nat.zero_le _, by rw [Nat.pow_zero, pw_one], rfl, rfl⟩
              case round =>
                obtain ⟨I, m3, hI, rfl, rfl, rfl⟩ := hrel
                by_cases hID : I < D
                · have hp2' := pw_two U I
                  generalize pw U (2 ^ I) = s at hp2'
                  have HP2 := Lib.hid hp2'
                  clear hp2'
                  go_wp2_with fail
                  refine (HMUL.out s s _ (by exact hc0)).mono ?_
                  rintro e w' ⟨rfl, k5, rfl⟩
                  go_wp2
                  go_roundw
                  case rel => exact ⟨I + 1, _, by omega, by rw [HP2.out], by go_num, rfl⟩
                  case measure => simp [intOf]; omega
                · obtain rfl : I = D := by omega
                  generalize pw U (2 ^ I) = s at HST
                  go_wp2_with fail
                  refine (HMUL.out R s _ (by exact hc0)).mono ?_
                  rintro e w' ⟨rfl, k5, rfl⟩
                  go_wp2_with fail
                  refine (HMUL.out s s _ (by exact hc0)).mono ?_
                  rintro e w' ⟨rfl, k6, rfl⟩
                  go_wp2_with fail
                  refine (HMUL.out E (s * s) _ (by exact hc0)).mono ?_
                  rintro e w' ⟨rfl, k7, rfl⟩
                  go_wp2
                  go_roundw
                  case rel => exact ⟨K, _, _, _, _, by omega, HST.out, rfl, rfl, rfl, rfl, rfl⟩
                  case measure => simp [intOf]; omega
            · have r2 : (fv (pw E (2 ^ K)) != 1) = true := by rw [bne_iff_ne]; exact fun e => hx ((fv_eq_one hp1).1 e)
              have hKT : K + 1 ≤ T - 1 := by
                rcases Nat.lt_or_ge K (T - 1) with h0 | h0
                · omega
                · have e1 : K = T - 1 := by omega
                  exact absurd (e1 ▸ HT2.out.half) hx
              have hno2 : ∀ i, i < K + 1 → pw E (2 ^ i) ≠ 1 := fun i hi => by
                by_cases hiK : i = K
                · rw [hiK]; exact hx
                · exact HNO.out i (by omega)
              have hp2' := pw_two E K
              have HNO2 := Lib.hid hno2
              clear hx hno2
              generalize pw E (2 ^ K) = s at hp2' r2
              have HP2 := Lib.hid hp2'
              clear hp2'
              go_wp2_with fail
              refine (HMUL.out s s _ (by exact hc0)).mono ?_
              rintro e w' ⟨rfl, k5, rfl⟩
              go_wp2
              go_roundw
              case rel => exact ⟨K + 1, _, hKT, HNO2.out, by go_num, by rw [HP2.out], rfl⟩
              case measure => simp [intOf]; omega

set_option maxRecDepth 100000 in
set_option maxHeartbeats 2000000 in
theorem squares_walk (w : World) (p : Int) (hp : I64 p) (m : Int) (hm' : I64 m) (hT : Typed w) :
    Calls Tryd.prog 8 #[vi p, vi m] w fun e w' => SaysW (.bool true) w e w' := by
  by_cases hF : HasField p
  · obtain ⟨h3, hm, hpr⟩ := hF
    obtain ⟨q, rfl⟩ := Int.eq_ofNat_of_zero_le (a := p) (by omega)
    rw [Int.toNat_natCast] at hpr
    haveI := hpr.ne
    have hqm : q ≤ 2147483647 := by omega
    have hq2 : 2 ≤ q := by omega
    have HF := Lib.hid (sfield_yes q (by omega) hqm hpr w hT)
    obtain ⟨n, hn⟩ : ∃ n, n = (q - 1) / 2 := ⟨_, rfl⟩
    have hnq : n ≤ q := by omega
    have e3 : ((q : Int) - 1).tdiv 2 = (n : Int) := by rw [Int.tdiv_eq_ediv_of_nonneg (by omega)]; omega
    have e4 : ((q : Int) - 1) / 2 = (n : Int) := by omega
    have hpw := fun w => rpow_nn q hq2 hqm m n hm' (by constructor <;> omega) (by omega) w
    simp only [Int.natAbs_natCast] at hpw
    have HOF := Lib.hid (fun w => rof_any q hqm m hm' w)
    have hz := fun S b w F h => sqrt_zero q S b m hm' h w F
    have hno := fun S b w F h h1 => sqrt_no q S b m hm' h h1 w F
    have hyes := fun S b w F h h1 => sqrt_yes q S b m hm' h h1 w F
    rw [← hn] at hno hyes
    generalize el q m = X at HOF hpw hz hno hyes
    have HPW := Lib.hid hpw
    have HZ := Lib.hid hz
    have HNO := Lib.hid hno
    have HYES := Lib.hid hyes
    have HPR := Lib.hid hpr
    have HN := Lib.hid hn
    clear hpr hpw hz hno hyes hn
    by_cases hX : X = 0
    · have t1 : (fv X == 0) = true := by rw [hX]; rfl
      have hmul := fun w => rmul_any q hqm 0 0 (by constructor <;> decide) (by constructor <;> decide) w
      have hz0 : fv (el q 0 * el q 0) = fv X := by rw [el_zero, hX]; (congr 1 <;> grind)
      rw [hz0] at hmul
      have HMUL := Lib.hid hmul
      have HX := Lib.hid hX
      generalize fv (pw X n) = Y at HPW
      clear hX hmul hz0
      go_enter Tryd.func8, Tryd.ntmps8
      go_wp2_with fail
      refine (HF.out).mono ?_
      rintro e w1 ⟨b, rfl, F, hb1⟩
      go_wp2_with fail
      refine (HZ.out _ b _ F HX.out).mono ?_
      rintro e w' ⟨rfl, rfl⟩
      go_wp2_with fail
      refine (HOF.out _).mono ?_
      rintro e w' ⟨rfl, rfl⟩
      go_wp2_with fail
      refine (HPW.out _).mono ?_
      rintro e w' ⟨rfl, rfl⟩
      go_wp2_with fail
      refine (HMUL.out _).mono ?_
      rintro e w' ⟨rfl, rfl⟩
      go_wp2
      go_ret
      exact ⟨rfl, hb1⟩
    · have t1 : (fv X == 0) = false := by rw [beq_eq_false_iff_ne]; exact fun e => hX (fv_eq_zero.1 e)
      by_cases h1 : pw X n = 1
      · have t2 : (fv (pw X n) == 1) = true := by rw [beq_iff_eq, h1, fv_one hq2]
        have H1 := Lib.hid h1
        have HX := Lib.hid hX
        generalize fv (pw X n) = Y at HPW t2
        clear hX h1
        go_enter Tryd.func8, Tryd.ntmps8
        go_wp2_with fail
        refine (HF.out).mono ?_
        rintro e w1 ⟨b, rfl, F, hb1⟩
        go_wp2_with fail
        refine (HYES.out _ b _ F HX.out H1.out).mono ?_
        rintro e w2 ⟨⟨R, hR, hle, rfl⟩, k1, rfl⟩
        have hmul := fun w => rmul_any q hqm (fv R) (fv R) (i64_fv _ hqm) (i64_fv _ hqm) w
        rw [el_fv, hR] at hmul
        have HMUL := Lib.hid hmul
        have hf1 := fv_nonneg R
        have hf2 := fv_lt R
        clear hmul hR
        go_wp2_with fail
        refine (HOF.out _).mono ?_
        rintro e w' ⟨rfl, rfl⟩
        go_wp2_with fail
        refine (HPW.out _).mono ?_
        rintro e w' ⟨rfl, rfl⟩
        go_wp2_with fail
        refine (HMUL.out _).mono ?_
        rintro e w' ⟨rfl, rfl⟩
        go_wp2
        go_ret
        exact ⟨rfl, below_drewN hb1 _⟩
      · have t2 : (fv (pw X n) == 1) = false := by rw [beq_eq_false_iff_ne]; exact fun e => h1 ((fv_eq_one hq2).1 e)
        have H1 := Lib.hid h1
        have HX := Lib.hid hX
        generalize fv (pw X n) = Y at HPW t2
        clear hX h1
        go_enter Tryd.func8, Tryd.ntmps8
        go_wp2_with fail
        refine (HF.out).mono ?_
        rintro e w1 ⟨b, rfl, F, hb1⟩
        go_wp2_with fail
        refine (HNO.out _ b _ F HX.out H1.out).mono ?_
        rintro e w' ⟨rfl, rfl⟩
        go_wp2_with fail
        refine (HOF.out _).mono ?_
        rintro e w' ⟨rfl, rfl⟩
        go_wp2_with fail
        refine (HPW.out _).mono ?_
        rintro e w' ⟨rfl, rfl⟩
        go_wp2
        go_ret
        exact ⟨rfl, hb1⟩
  · have HN := Lib.hid (sfield_no p hp hF w hT)
    clear hF
    go_enter Tryd.func8, Tryd.ntmps8
    go_wp2_with fail
    refine (HN.out).mono ?_
    rintro e w1 ⟨rfl, hb1⟩
    go_wp2
    go_ret
    exact ⟨rfl, hb1⟩
end Go.Proofs.YtbafkfnceednlaaDoor
