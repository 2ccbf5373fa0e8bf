/- A bundle of texts: Xd, Tb0, Ro, Sz, LawQ1, Lwb, Oa, Lwc. -/
import Derived.Test.YtpkhcncempoohaaGreatDoorQ13
import Derived.Test.YtpkhcncempoohaaGreatDoorQ07
import Derived.Test.YtpkhcncempoohaaGreatDoorQ02
import Derived.Test.YtpkhcncempoohaaGreatDoorQ06
import Derived.Test.YtpkhcncempoohaaGreatDoorQ01
import Derived.SizedLaws
import Derived.Deep.Matrix
import Derived.Deep.QuietTactic
import Derived.BigQuiet
import Derived.Lib.SmallJoins
import Derived.ChangeOld
import Derived.Below
import Derived.OpenShut
import Derived.Test.YtpkhcncempoohaaGreatDoorQ05
import Derived.Deep.Slices
import Derived.Deep.Fields
import Derived.ChangeSame
set_option linter.unusedVariables false
set_option linter.unusedSimpArgs false
namespace Go.Proofs.YtpkhcncempoohaaGreatDoor
open Go.RowKit Zp
theorem co_colI {q : Nat} [NeZero q] (rows : List (List Int)) {i : Nat} (hi : i < rows.length) (j : Nat) : co (els q (colI rows j)) i = el q (entR rows i j) := by
  unfold co els colI entR
  rw [List.getElem?_map, List.getElem?_map, List.getElem?_eq_getElem hi]
  simp only [Option.map_some, Option.getD_some]
  rw [show rows.getD i [] = rows[i] by rw [List.getD_eq_getElem?_getD, List.getElem?_eq_getElem hi]; rfl]
theorem tsound_plain {q n L : Nat} [NeZero q] (hf : FitsN q n L) (hp : IsPrime q) {rows : List (List Int)} (hn : rows.length = n) {code : List InsI} (hlen : code.length = L) {size outc y : Int} {xs bs : List Int} {zss : List (List Int)}
    (hx : ndB (els q xs) = true) (ha : ndB (els q bs) = true) (hap : ApartQ (el q y) (pairsL q rows 3 7 (4 * n) ++ pairsL q rows 12 16 (4 * n))) (hxl : 4 * n ≤ xs.length) (hal : L + 28 ≤ bs.length)
    (hC : ∀ i (hi : i < xs.length), (zss.getD i []).length = n ∧ ∀ k (hk : k < bs.length), cwB q (8 * n) (genE q) (4 * (n : Int)) (wordV n code size (el q outc) (el q y) (el q xs[i]) (el q bs[k]) (colsR q n L rows (zss.getD i []))) = true) :
    runM code (n - 1) ⟨0, 1, 1 + el q size, 0, mem0⟩ = .blank ∨ runM code (n - 1) ⟨0, 1, 1 + el q size, 0, mem0⟩ = .out (el q outc) := by
  have hfp := hf.fit hp
  subst hlen
  have hLq : code.length < q := by
    obtain ⟨k, hk⟩ := hf.2.1
    have h1 := hf.n
    have h2 := hf.2.2.1
    have h3 := hf.2.2.2.2.1
    have h4 : 2 ≤ k := by
      rcases k with _ | _ | k
      · omega
      · omega
      · omega
    have h5 := Nat.mul_le_mul_left (8 * n) h4
    omega
  refine sound_run (size := size) (out := el q outc) (y := el q y) (xs := els q xs) hfp (rows := fun i j => co (els q (colI rows j)) i) (R := fun j => colP n (els q (colI rows j))) (zc := 20 + code.length) (Nat.le_refl _) (fun j => ?_) (fun j hj i hi => ?_) (of_decide_eq_true hx) (by simp [els]; exact hxl) (show (els q bs).Nodup from of_decide_eq_true ha) (by simp [els]; exact hal) hLq (fun i j hi hj h => ?_) (fun x hxm => ?_) mem0 (fun x v h => ?_)
  · exact colP_poly hfp (by simp [els, colI_len, hn])
  · exact colP_at hfp (by simp [els, colI_len, hn]) hi
  · have e1 : pairB (fun i j => co (els q (colI rows j)) i) i = (el q (entR rows (i / 4) (12 + i % 4)), el q (entR rows (i / 4) (16 + i % 4))) := by
      have h4 : i / 4 < rows.length := by omega
      show (co (els q (colI rows (12 + i % 4))) (i / 4), co (els q (colI rows (16 + i % 4))) (i / 4)) = _
      rw [co_colI rows h4, co_colI rows h4]
    have e2 : pairA (fun i j => co (els q (colI rows j)) i) j = (el q (entR rows (j / 4) (3 + j % 4)), el q (entR rows (j / 4) (7 + j % 4))) := by
      have h4 : j / 4 < rows.length := by omega
      show (co (els q (colI rows (3 + j % 4))) (j / 4), co (els q (colI rows (7 + j % 4))) (j / 4)) = _
      rw [co_colI rows h4, co_colI rows h4]
    rw [e1, e2] at h ⊢
    have hq : ∀ a ∈ pairsL q rows 3 7 (4 * n) ++ pairsL q rows 12 16 (4 * n), ∀ b ∈ pairsL q rows 3 7 (4 * n) ++ pairsL q rows 12 16 (4 * n), numP (el q y) a = numP (el q y) b → a = b := fun a ha b hb hab => by
      obtain ⟨i1, h1, rfl⟩ := List.mem_iff_getElem.1 ha
      obtain ⟨i2, h2, rfl⟩ := List.mem_iff_getElem.1 hb
      exact hap i1 i2 h1 h2 hab
    refine hq _ ?_ _ ?_ h
    · exact List.mem_append_right _ (List.mem_map.2 ⟨i, List.mem_range.2 hi, rfl⟩)
    · exact List.mem_append_left _ (List.mem_map.2 ⟨j, List.mem_range.2 hj, rfl⟩)
  · obtain ⟨i, hi, rfl⟩ := List.mem_iff_getElem.1 hxm
    have hi' : i < xs.length := by simpa [els] using hi
    obtain ⟨hz, hk⟩ := hC i hi'
    refine ⟨colP n (els q (zss.getD i [])), colP_poly hfp (by simp only [els, List.length_map]; exact hz), fun a ham => ?_⟩
    obtain ⟨k, hk1, rfl⟩ := List.mem_iff_getElem.1 ham
    have hk' : k < bs.length := by simpa [els] using hk1
    have hcw := hk k hk'
    have hcw := of_decide_eq_true hcw
    have ex : (els q xs)[i] = el q xs[i] := by simp [els]
    have ea : (els q bs)[k] = el q bs[k] := by simp [els]
    rw [ex, ea]
    obtain ⟨P, hP1, hP2⟩ := low_of hfp (l := els q (wordV n code size (el q outc) (el q y) (el q xs[i]) (el q bs[k]) (colsR q n code.length rows (zss.getD i [])))) (by simp [els, wordV]) (by have := hcw.2.2; exact_mod_cast this)
    refine ⟨P, hP1, fun m hm => ?_⟩
    rw [← hP2 m hm]
    have e3 : (wordV n code size (el q outc) (el q y) (el q xs[i]) (el q bs[k]) (colsR q n code.length rows (zss.getD i []))).getD m 0 = fv (combW (el q bs[k]) (wordsK n (compK code size (el q outc) (20 + code.length) (el q y) (el q xs[i])) (colsR q n code.length rows (zss.getD i []))) m) := by
      unfold wordV
      rw [List.getD_eq_getElem?_getD, List.getElem?_map, List.getElem?_eq_getElem (by simp; exact hm)]
      simp
    show _ = co _ m
    rw [co_els, e3, el_fv]
    rfl
  · unfold mem0 at h
    by_cases e : x = 0
    · rw [if_pos e] at h
      injection h with h
      exact ⟨e, h.symm⟩
    · rw [if_neg e] at h
      cases h
end Go.Proofs.YtpkhcncempoohaaGreatDoor

namespace Go.Proofs.YtpkhcncempoohaaGreatDoor
open Go.RowKit Zp
set_option maxHeartbeats 2000000 in
theorem tplain_some (n : Nat) [NeZero n] (h1 : 3 ≤ n) (h2 : n ≤ 2147483647) (hp : IsPrime n) (w : World) : Calls Tryz.prog 5 #[vi n] w fun e w' => ∃ b, e = .returned (.pointer (some ⟨b, 0, none⟩)) ∧ Fld w' w'.heap.size b n ∧ Below w.heap.size w w' := by
  have HN := Lib.hid (new_prime n w h1 h2 hp)
  go_enter Tryz.func5, Tryz.ntmps5
  go_wp2_with fail
  refine HN.out.mono ?_
  rintro _ w1 ⟨b, rfl, hF, hb1, hlb⟩
  have HF := Lib.hid (And.intro hF hb1)
  clear hF hb1
  go_wp2
  go_ret
  exact ⟨b, rfl, HF.out.1, HF.out.2⟩
theorem tplain_none (p : Int) (w : World) (h : ¬ HasField p) : Calls Tryz.prog 5 #[vi p] w fun e w' => e = .returned (.pointer none) ∧ Below w.heap.size w w' := by
  have HN := Lib.hid (new_none p w h)
  go_enter Tryz.func5, Tryz.ntmps5
  go_wp2_with fail
  refine HN.out.mono ?_
  rintro _ _ ⟨rfl, rfl⟩
  go_wp2
  go_ret
  exact ⟨rfl, Below.refl _ _⟩
end Go.Proofs.YtpkhcncempoohaaGreatDoor

namespace Go.Proofs.YtpkhcncempoohaaGreatDoor
open Go.RowKit Zp
theorem rpow_fv (p : Nat) [NeZero p] (hp1 : 2 ≤ p) (hp2 : p ≤ 2147483647) (X : Fin p) (k : Nat) (hk : (k : Int) ≤ 9223372036854775807) (w : World) :
    Calls Tryz.prog 58 #[vi p, vi (fv X), vi k] w fun e w' => e = .returned (vi (fv (pw X k))) ∧ w = w' := by
  have h := rpow_nn p hp1 hp2 (fv X) k (i64_fv _ hp2) (by constructor <;> omega) (by omega) w
  rw [el_fv, Int.natAbs_natCast] at h
  exact h
theorem sq_lt {i p : Nat} (h : i * i ≤ p - 1) (hp : p ≤ 2147483647) : i ≤ 46340 := by
  rcases Nat.lt_or_ge 46340 i with hlt | hge
  · have := Nat.mul_le_mul (show 46341 ≤ i from hlt) (show 46341 ≤ i from hlt); omega
  · exact hge
def OrdRel {p : Nat} [NeZero p] (X : Fin p) (b i : Value) : Prop := ∃ (I B : Nat), 1 ≤ I ∧ I ≤ 46341 ∧ b = vi B ∧ i = vi I ∧ BestQ (Tried p I) X B
theorem fv1 {p : Nat} [NeZero p] (hp1 : 2 ≤ p) {x : Fin p} (h : x = 1) : (fv x == 1) = true := by rw [beq_iff_eq, fv_eq_one hp1]; exact h
theorem fv1n {p : Nat} [NeZero p] (hp1 : 2 ≤ p) {x : Fin p} (h : ¬ x = 1) : (fv x == 1) = false := by rw [beq_eq_false_iff_ne]; intro h2; exact h ((fv_eq_one hp1).1 h2)
set_option maxRecDepth 100000 in
set_option maxHeartbeats 4000000 in
theorem rorder_any (p : Nat) [NeZero p] (hp : IsPrime p) (hp1 : 2 ≤ p) (hp2 : p ≤ 2147483647) (m : Int) (hm : I64 m) (w : World) :
    Calls Tryz.prog 23 #[vi p, vi m] w fun e w' => e = .returned (vi ((ordN (el p m) : Nat) : Int)) ∧ w = w' := by
  have hof := rof_any p hp2 m hm
  generalize el p m = X at hof ⊢
  have HOF := Lib.hid hof
  clear hof
  by_cases hx : X = 0
  · have t1 : (fv X == 0) = true := by rw [hx]; rfl
    have ho : ((ordN X : Nat) : Int) = 0 := by rw [hx, ordN_zero hp]; rfl
    have HO := Lib.hid ho
    clear hx ho hp
    go_enter Tryz.func23, Tryz.ntmps23
    go_wp2_with fail
    refine (HOF.out _).mono ?_
    rintro e w' ⟨rfl, rfl⟩
    go_wp2
    go_ret
    exact ⟨ret_int HO.out.symm, rfl⟩
  · have t1 : (fv X == 0) = false := by rw [beq_eq_false_iff_ne]; exact fun h => hx (fv_eq_zero.1 h)
    have HX := Lib.hid hx
    have HP := Lib.hid hp
    clear hx hp
    go_enter Tryz.func23, Tryz.ntmps23
    go_wp2_with fail
    refine (HOF.out _).mono ?_
    rintro e w' ⟨rfl, rfl⟩
    go_wp2
    go_loop [5, 6, 7, 8] (fun b i _ _ => OrdRel X b i) (fun _ i _ _ => 46342 - (intOf i).toNat)
    case atStart => exact ⟨1, p - 1, Nat.le_refl _, by omega, by congr 1; omega, rfl, BestQ.start HP.out HX.out⟩
    case round =>
      obtain ⟨I, B, hI, hI2, rfl, rfl, hB⟩ := hrel
      have HB := Lib.hid hB
      clear hB
      have ec : (I : Int) * I = ((I * I : Nat) : Int) := by rw [Int.natCast_mul]
      by_cases hii : I * I ≤ p - 1
      · have hIl := sq_lt hii hp2
        have q1 : (I : Int) * I ≤ (p : Int) - 1 := by rw [ec]; omega
        have q0 : (0 : Int) ≤ (I : Int) * I := by rw [ec]; omega
        obtain ⟨r, hr⟩ : ∃ r, r = (p - 1) % I := ⟨_, rfl⟩
        obtain ⟨k, hk⟩ : ∃ k, k = (p - 1) / I := ⟨_, rfl⟩
        have ep : (p : Int) - 1 = ((p - 1 : Nat) : Int) := by omega
        have hkp : k ≤ p - 1 := by rw [hk]; exact Nat.div_le_self _ _
        have e1 : ((p : Int) - 1).tmod I = (r : Int) := by rw [ep, Int.tmod_eq_emod_of_nonneg (by omega), hr]; omega
        have e2 : ((p : Int) - 1) % I = (r : Int) := by rw [ep, hr]; omega
        have e3 : ((p : Int) - 1).tdiv I = (k : Int) := by rw [ep, Int.tdiv_eq_ediv_of_nonneg (by omega), hk]; omega
        have e4 : ((p : Int) - 1) / I = (k : Int) := by rw [ep, hk]; omega
        have hdv : r = 0 ↔ I ∣ p - 1 := by rw [hr]; exact (Nat.dvd_iff_mod_eq_zero).symm
        have hkd : I ∣ p - 1 → k ∣ p - 1 := fun h => by rw [hk]; exact Nat.div_dvd_of_dvd h
        have hk1 : I ∣ p - 1 → 1 ≤ k := fun h => by rw [hk]; exact Nat.div_pos (Nat.le_of_dvd (by omega) h) (by omega)
        have HK := Lib.hid hk
        have HKD := Lib.hid hkd
        have HK1 := Lib.hid hk1
        have h0I : ((I : Int) == 0) = false := by rw [beq_eq_false_iff_ne]; omega
        clear ep hr hk hkd hk1 ec hii
        by_cases hr0 : r = 0
        · have hd := hdv.1 hr0
          have t2 : ((r : Int) != 0) = false := by rw [hr0]; rfl
          have hp1' := fun w => rpow_fv p hp1 hp2 X I (by omega) w
          have hp2' := fun w => rpow_fv p hp1 hp2 X k (by omega) w
          obtain ⟨Z, hZ⟩ : ∃ Z, Z = pw X I := ⟨_, rfl⟩
          obtain ⟨Y, hY⟩ : ∃ Y, Y = pw X k := ⟨_, rfl⟩
          rw [← hZ] at hp1'
          rw [← hY] at hp2'
          have HP1 := Lib.hid hp1'
          have HP2 := Lib.hid hp2'
          have HZ := Lib.hid hZ
          have HY := Lib.hid hY
          have HD := Lib.hid hd
          clear hp1' hp2' hZ hY hdv hd hr0
          by_cases hz : Z = 1
          · have a1 : (fv Z == 1) = true := fv1 hp1 hz
            have HZN := Lib.hid hz
            clear hz
            by_cases hi2 : I < B
            · have M1 := Lib.hid (HB.out.hit (i := I) (R := fun j => Tried p I j ∨ j = I) hI HD.out (HZ.out.symm.trans HZN.out) hi2 (fun j _ h => h))
              by_cases hy : Y = 1
              · have a2 : (fv Y == 1) = true := fv1 hp1 hy
                have HYN := Lib.hid hy
                clear hy
                by_cases hk2 : k < I
                · have M2 := Lib.hid (M1.out.hit (i := k) (R := Tried p (I + 1)) (HK1.out HD.out) (HKD.out HD.out) (HY.out.symm.trans HYN.out) hk2 (fun j hj h => by rcases tried_pair hp1 HD.out hj h with h | h; exact .inl h; exact .inr (h.trans HK.out.symm)))
                  clear M1
                  go_wp2_with fail
                  refine (HP1.out _).mono ?_
                  rintro e w' ⟨rfl, rfl⟩
                  go_wp2_with fail
                  refine (HP2.out _).mono ?_
                  rintro e w' ⟨rfl, rfl⟩
                  go_wp2
                  go_round
                  case rel => exact ⟨I + 1, k, by omega, by omega, rfl, by go_num, M2.out⟩
                  case measure => simp [intOf]; omega
                · have M2 := Lib.hid (M1.out.miss (i := k) (R := Tried p (I + 1)) (fun _ => hk2) (fun j hj h => by rcases tried_pair hp1 HD.out hj h with h | h; exact .inl h; exact .inr (h.trans HK.out.symm)))
                  clear M1
                  go_wp2_with fail
                  refine (HP1.out _).mono ?_
                  rintro e w' ⟨rfl, rfl⟩
                  go_wp2_with fail
                  refine (HP2.out _).mono ?_
                  rintro e w' ⟨rfl, rfl⟩
                  go_wp2
                  go_round
                  case rel => exact ⟨I + 1, I, by omega, by omega, rfl, by go_num, M2.out⟩
                  case measure => simp [intOf]; omega
              · have a2 : (fv Y == 1) = false := fv1n hp1 hy
                have HYN := Lib.hid hy
                clear hy
                have M2 := Lib.hid (M1.out.miss (i := k) (R := Tried p (I + 1)) (fun h => absurd (HY.out.trans h) HYN.out) (fun j hj h => by rcases tried_pair hp1 HD.out hj h with h | h; exact .inl h; exact .inr (h.trans HK.out.symm)))
                clear M1
                go_wp2_with fail
                refine (HP1.out _).mono ?_
                rintro e w' ⟨rfl, rfl⟩
                go_wp2_with fail
                refine (HP2.out _).mono ?_
                rintro e w' ⟨rfl, rfl⟩
                go_wp2
                go_round
                case rel => exact ⟨I + 1, I, by omega, by omega, rfl, by go_num, M2.out⟩
                case measure => simp [intOf]; omega
            · have M1 := Lib.hid (HB.out.miss (i := I) (R := fun j => Tried p I j ∨ j = I) (fun _ => hi2) (fun j _ h => h))
              by_cases hy : Y = 1
              · have a2 : (fv Y == 1) = true := fv1 hp1 hy
                have HYN := Lib.hid hy
                clear hy
                by_cases hk2 : k < B
                · have M2 := Lib.hid (M1.out.hit (i := k) (R := Tried p (I + 1)) (HK1.out HD.out) (HKD.out HD.out) (HY.out.symm.trans HYN.out) hk2 (fun j hj h => by rcases tried_pair hp1 HD.out hj h with h | h; exact .inl h; exact .inr (h.trans HK.out.symm)))
                  clear M1
                  go_wp2_with fail
                  refine (HP1.out _).mono ?_
                  rintro e w' ⟨rfl, rfl⟩
                  go_wp2_with fail
                  refine (HP2.out _).mono ?_
                  rintro e w' ⟨rfl, rfl⟩
                  go_wp2
                  go_round
                  case rel => exact ⟨I + 1, k, by omega, by omega, rfl, by go_num, M2.out⟩
                  case measure => simp [intOf]; omega
                · have M2 := Lib.hid (M1.out.miss (i := k) (R := Tried p (I + 1)) (fun _ => hk2) (fun j hj h => by rcases tried_pair hp1 HD.out hj h with h | h; exact .inl h; exact .inr (h.trans HK.out.symm)))
                  clear M1
                  go_wp2_with fail
                  refine (HP1.out _).mono ?_
                  rintro e w' ⟨rfl, rfl⟩
                  go_wp2_with fail
                  refine (HP2.out _).mono ?_
                  rintro e w' ⟨rfl, rfl⟩
                  go_wp2
                  go_round
                  case rel => exact ⟨I + 1, B, by omega, by omega, rfl, by go_num, M2.out⟩
                  case measure => simp [intOf]; omega
              · have a2 : (fv Y == 1) = false := fv1n hp1 hy
                have HYN := Lib.hid hy
                clear hy
                have M2 := Lib.hid (M1.out.miss (i := k) (R := Tried p (I + 1)) (fun h => absurd (HY.out.trans h) HYN.out) (fun j hj h => by rcases tried_pair hp1 HD.out hj h with h | h; exact .inl h; exact .inr (h.trans HK.out.symm)))
                clear M1
                go_wp2_with fail
                refine (HP1.out _).mono ?_
                rintro e w' ⟨rfl, rfl⟩
                go_wp2_with fail
                refine (HP2.out _).mono ?_
                rintro e w' ⟨rfl, rfl⟩
                go_wp2
                go_round
                case rel => exact ⟨I + 1, B, by omega, by omega, rfl, by go_num, M2.out⟩
                case measure => simp [intOf]; omega
          · have a1 : (fv Z == 1) = false := fv1n hp1 hz
            have HZN := Lib.hid hz
            clear hz
            have M1 := Lib.hid (HB.out.miss (i := I) (R := fun j => Tried p I j ∨ j = I) (fun h => absurd (HZ.out.trans h) HZN.out) (fun j _ h => h))
            by_cases hy : Y = 1
            · have a2 : (fv Y == 1) = true := fv1 hp1 hy
              have HYN := Lib.hid hy
              clear hy
              by_cases hk2 : k < B
              · have M2 := Lib.hid (M1.out.hit (i := k) (R := Tried p (I + 1)) (HK1.out HD.out) (HKD.out HD.out) (HY.out.symm.trans HYN.out) hk2 (fun j hj h => by rcases tried_pair hp1 HD.out hj h with h | h; exact .inl h; exact .inr (h.trans HK.out.symm)))
                clear M1
                go_wp2_with fail
                refine (HP1.out _).mono ?_
                rintro e w' ⟨rfl, rfl⟩
                go_wp2_with fail
                refine (HP2.out _).mono ?_
                rintro e w' ⟨rfl, rfl⟩
                go_wp2
                go_round
                case rel => exact ⟨I + 1, k, by omega, by omega, rfl, by go_num, M2.out⟩
                case measure => simp [intOf]; omega
              · have M2 := Lib.hid (M1.out.miss (i := k) (R := Tried p (I + 1)) (fun _ => hk2) (fun j hj h => by rcases tried_pair hp1 HD.out hj h with h | h; exact .inl h; exact .inr (h.trans HK.out.symm)))
                clear M1
                go_wp2_with fail
                refine (HP1.out _).mono ?_
                rintro e w' ⟨rfl, rfl⟩
                go_wp2_with fail
                refine (HP2.out _).mono ?_
                rintro e w' ⟨rfl, rfl⟩
                go_wp2
                go_round
                case rel => exact ⟨I + 1, B, by omega, by omega, rfl, by go_num, M2.out⟩
                case measure => simp [intOf]; omega
            · have a2 : (fv Y == 1) = false := fv1n hp1 hy
              have HYN := Lib.hid hy
              clear hy
              have M2 := Lib.hid (M1.out.miss (i := k) (R := Tried p (I + 1)) (fun h => absurd (HY.out.trans h) HYN.out) (fun j hj h => by rcases tried_pair hp1 HD.out hj h with h | h; exact .inl h; exact .inr (h.trans HK.out.symm)))
              clear M1
              go_wp2_with fail
              refine (HP1.out _).mono ?_
              rintro e w' ⟨rfl, rfl⟩
              go_wp2_with fail
              refine (HP2.out _).mono ?_
              rintro e w' ⟨rfl, rfl⟩
              go_wp2
              go_round
              case rel => exact ⟨I + 1, B, by omega, by omega, rfl, by go_num, M2.out⟩
              case measure => simp [intOf]; omega
        · have t2 : ((r : Int) != 0) = true := by rw [bne_iff_ne]; omega
          have hs := HB.out.skip hp1 (fun h => hr0 (hdv.2 h))
          have HS := Lib.hid hs
          clear hs hdv hr0
          go_wp2
          go_round
          case rel => exact ⟨I + 1, B, by omega, by omega, rfl, by go_num, HS.out⟩
          case measure => simp [intOf]; omega
      · have q1 : (p : Int) - 1 < (I : Int) * I := by rw [ec]; omega
        have hI4 : I * I ≤ 46341 * 46341 := Nat.mul_le_mul hI2 hI2
        have q2 : (I : Int) * I ≤ 2147488281 := by rw [ec]; omega
        have q0 : (0 : Int) ≤ (I : Int) * I := by rw [ec]; omega
        have hb := HB.out.done HP.out HX.out (by omega)
        have HBB := Lib.hid hb
        clear ec hii hb hI4
        go_wp2
        go_ret
        exact ⟨ret_int (by rw [HBB.out]), rfl⟩
set_option maxHeartbeats 1000000 in
theorem rgen_any (p : Nat) [NeZero p] (hp : IsPrime p) (hp1 : 3 ≤ p) (hp2 : p ≤ 2147483647) (w : World) :
    Calls Tryz.prog 9 #[vi p] w fun e w' => e = .returned (vi ((genN p : Nat) : Int)) ∧ w = w' := by
  obtain ⟨G, hG⟩ : ∃ G, G = genN p := ⟨_, rfl⟩
  have hg := genN_is hp
  rw [← hG] at hg ⊢
  obtain ⟨g1, g2, g3⟩ := hg.ord_iff hp
  have HP := Lib.hid hp
  have H2 := Lib.hid g3
  clear hG hg hp g3
  go_enter Tryz.func9, Tryz.ntmps9
  go_wp2
  go_loop [3, 4] (fun i _ => ∃ k : Nat, 1 ≤ k ∧ k ≤ G ∧ i = vi k) (fun i _ => G + 1 - (intOf i).toNat)
  case atStart => exact ⟨1, Nat.le_refl _, g1, rfl⟩
  case round =>
    obtain ⟨k, hk1, hk2, rfl⟩ := hrel
    have ho := fun w => rorder_any p HP.out (by omega) hp2 k (by constructor <;> omega) w
    have hor := H2.out k hk1 hk2
    generalize ordN (el p (k : Int)) = O at ho hor
    have HO := Lib.hid ho
    clear ho
    by_cases hkG : k = G
    · have hO : O = p - 1 := hor.2 hkG
      have t1 : ((O : Int) == (p : Int) - 1) = true := by rw [beq_iff_eq]; omega
      obtain rfl := hkG
      clear hO hor
      go_wp2_with fail
      refine (HO.out _).mono ?_
      rintro e w' ⟨rfl, rfl⟩
      go_wp2
      go_ret
      exact ⟨rfl, rfl⟩
    · have t1 : ((O : Int) == (p : Int) - 1) = false := by
        rw [beq_eq_false_iff_ne]; intro h; exact hkG (hor.1 (by omega))
      clear hor
      go_wp2_with fail
      refine (HO.out _).mono ?_
      rintro e w' ⟨rfl, rfl⟩
      go_wp2
      go_round
      case rel => exact ⟨k + 1, by omega, by omega, by go_num⟩
      case measure => simp [intOf]; omega
end Go.Proofs.YtpkhcncempoohaaGreatDoor

namespace Go.Proofs.YtpkhcncempoohaaGreatDoor
open Go.RowKit Go.ChangeShapes
theorem weightsAll_mem {H : Type} {P : Program} {e : TypeId} {d : DataW H} {n : Nat} : ∀ {l : List (DataW H)}, d ∈ l → n ∈ d.weights P e → n ∈ DataW.weightsAll P e l
  | x :: l, hd, hn => by
    simp only [DataW.weightsAll, List.mem_append]
    rcases List.mem_cons.1 hd with rfl | h
    · exact .inl hn
    · exact .inr (weightsAll_mem h hn)
theorem sized_row {H : Type} {P : Program} {ts : List TypeId} {ds : List (DataW H)} (h : (DataW.weightsEach P ts ds).all (· ≤ reachBytes) = true) {j : Nat} {t e q : TypeId} {elems spare el sp : List (DataW H)} (ht : ts[j]? = some t) (hd : ds[j]? = some (.slice elems spare)) (hu : P.underlying t = some (.slice e)) (hv : P.underlying e = some (.slice q))
    (hm : .slice el sp ∈ elems) : (el.length + sp.length) * P.bytesOf q ≤ reachBytes := by
  have h1 : (el.length + sp.length) * P.bytesOf q ∈ DataW.weights P e (.slice el sp) := by simp [DataW.weights, hv]
  have h2 := weightsAll_mem hm h1
  have := List.all_eq_true.1 h _ (DataW.weights_mem_each ht hd _ (by simp only [DataW.weights, hu]; exact List.mem_cons_of_mem _ (List.mem_append_left _ h2)))
  simpa using this
theorem bytesI : Tryz.prog.bytesOf 3 = 8 := by kernel_rfl
theorem bytesR : Tryz.prog.bytesOf 26 = 24 := by kernel_rfl
structure ArgMS (w : World) (A : Option Addr) (n c : Nat) (ts : List (List Int)) : Prop where
  m : ArgM w A n c ts
  n24 : n ≤ 5864062014805
  r8 : ∀ t ∈ ts, t.length * 8 ≤ 140737488351232
theorem ArgMS.rows {w : World} {A : Option Addr} {n c : Nat} {ts : List (List Int)} (h : ArgMS w A n c ts) : ∀ t ∈ ts, t.length ≤ 17592186044416 := fun t ht => by have := h.r8 t ht; omega
theorem ArgMS.nil (w : World) : ArgMS w none 0 0 [] := ⟨ArgM.nil _, by omega, by simp⟩
theorem ArgMS.i64 {w : World} {A : Option Addr} {n c : Nat} {ts : List (List Int)} (h : ArgMS w A n c ts) : ∀ t ∈ ts, ∀ x ∈ t, I64 x := fun t ht => by
  obtain ⟨k, hk, rfl⟩ := List.mem_iff_getElem.1 ht
  obtain ⟨_, _, _, _, _, _, _, _, _, _, hi⟩ := h.m.tb k hk
  exact hi
theorem ArgMS.mk_ {H : Type} {tys : List TypeId} {ds : List (DataW H)} (hsz : (DataW.weightsEach Tryz.prog tys ds).all (· ≤ reachBytes) = true) {j : Nat} (ht : tys[j]? = some 25) {w : World} {a : Addr} {len cap : Nat} {A : Nat → Option Addr} {L C : Nat → Nat} {Z : Nat → List Int}
    (hd : ds[j]? = some (.slice ((List.range len).map fun r => Go.Deep.intRow .i64 (A r) (L r) (Z r)) ((List.range (cap - len)).map fun j => Go.Deep.intRow .i64 (A (len + j)) (L (len + j)) (Z (len + j))))) (hl : len ≤ cap) (hm : cap ≤ maxLen)
    (h : ∀ r, r < cap → w.cell? (a.add r) = some (.slice (A r) (L r) (C r)) ∧ L r ≤ C r ∧ C r ≤ maxLen ∧ (Z r).length = C r ∧ (∀ n ∈ Z r, (Lit.int .i64 n).wf = true) ∧ (A r = none → C r = 0) ∧
        ∀ a', A r = some a' → 0 ≤ a'.block ∧ ∀ c, c < C r → w.cell? (a'.add c) = some (.int .i64 ((Z r).getD c 0))) :
    ArgMS w (some a) len cap ((List.range len).map fun r => (Z r).take (L r)) := by
  refine ⟨ArgM.mk_ hl hm h, ?_, fun t hmem => ?_⟩
  · have h1 := sized_slice hsz (j := j) (t := 25) (e := 26) ht hd Tryz.underlying25
    rw [bytesR] at h1
    simp only [List.length_map, List.length_range, reachBytes] at h1
    omega
  · obtain ⟨r, hr, rfl⟩ := List.mem_map.1 hmem
    have hr' := List.mem_range.1 hr
    obtain ⟨_, h2, _, h4, _, h6, _⟩ := h r (by omega)
    rw [List.length_take]
    cases hA : A r with
    | none => have := h6 hA; omega
    | some a' =>
      have hin : DataW.slice (H := H) (lits .i64 ((Z r).take (L r))) (lits .i64 ((Z r).drop (L r))) ∈ (List.range len).map fun r => Go.Deep.intRow .i64 (A r) (L r) (Z r) :=
        List.mem_map.2 ⟨r, hr, by simp only [Go.Deep.intRow, hA]⟩
      have h1 := sized_row hsz (j := j) ht hd Tryz.underlying25 Tryz.underlying26 hin
      rw [bytesI] at h1
      simp only [lits, List.length_map, List.length_take, List.length_drop, reachBytes] at h1
      omega
end Go.Proofs.YtpkhcncempoohaaGreatDoor

namespace Go.Proofs.YtpkhcncempoohaaGreatDoor
open Go.RowKit Zp
def LivesT : Prop := ∀ w : World, Calls Tryz.prog 4 #[] w fun e w' => SaysW (.bool true) w e w'
set_option maxRecDepth 100000 in
set_option maxHeartbeats 4000000 in
theorem tsound_walk (hLV : LivesT) (hSC : SortC) (w : World) (p : Int) (hp : I64 p) (size : Int) (hsz : I64 size) (AI : Option Addr) (L cI : Nat) (code : List InsI) (hlen : code.length = L) (hL2 : L ≤ 4398046511104) (hIT : IT w AI code) (outc : Int) (ho : I64 outc) (AR : Option Addr) (nR cR : Nat) (rows : List (List Int)) (hR : ArgMS w AR nR cR rows) (AZ : Option Addr) (nZ cZ : Nat) (zss : List (List Int)) (hZ : ArgMS w AZ nZ cZ zss)
    (AX : Option Addr) (nX cX : Nat) (xs : List Int) (hX : ArgS w AX nX cX xs) (y : Int) (hy : I64 y) (AA : Option Addr) (nA cA : Nat) (bs : List Int) (hA : ArgS w AA nA cA bs) (hT : Typed w) :
    Calls Tryz.prog 3 #[vi p, .agg #[vi size, .slice AI L cI], vi outc, .slice AR nR cR, .slice AZ nZ cZ, .slice AX nX cX, vi y, .slice AA nA cA] w fun e w' => SaysW (.bool true) w e w' := by
  obtain ⟨k9, hk9⟩ : ∃ c, c = w.heap.size := ⟨_, rfl⟩
  obtain ⟨W0, hW0⟩ : ∃ W0, W0 = w.alloc (.cells #[vi size, .slice AI L cI] 24) := ⟨_, rfl⟩
  have hb0 : Below w.heap.size w W0 := by rw [hW0]; exact (Below.refl _ _).alloc (Nat.le_refl _) _
  have hC0 : Blk W0 k9 24 #[vi size, .slice AI L cI] := by rw [hW0, hk9]; exact Blk.new _ _ _
  have HLV := Lib.hid hLV
  have HSC := Lib.hid hSC
  have HW := Lib.hid (And.intro hW0 hk9)
  have H0 := Lib.hid (And.intro hb0 hC0)
  have HC := Lib.hid (And.intro hlen (And.intro hL2 (And.intro hIT hsz)))
  have HR := Lib.hid hR
  have HZ := Lib.hid hZ
  have HX := Lib.hid hX
  have HA := Lib.hid hA
  have HT := Lib.hid hT
  have HI := Lib.hid (And.intro ho hy)
  clear hLV hSC hW0 hk9 hb0 hC0 hlen hL2 hIT hsz hR hZ hX hA hT ho hy
  by_cases hF : HasField p
  · obtain ⟨h3, hm, hpr⟩ := hF
    obtain ⟨q, rfl⟩ := Int.eq_ofNat_of_zero_le (a := p) (by omega)
    rw [Int.toNat_natCast] at hpr
    haveI := hpr.ne
    have hq3 : 3 ≤ q := by omega
    have hq2 : q ≤ 2147483647 := by omega
    have HPL := Lib.hid (fun w => tplain_some q hq3 hq2 hpr w)
    have HPR := Lib.hid hpr
    have HFT := Lib.hid (fun W => rfits_any q hq3 hq2 size AI L cI nR (by have := HR.out.n24; omega) (by have := HC.out.2.1; omega) W)
    clear h3 hm hp hpr
    go_enter Tryz.func3, Tryz.ntmps3
    go_upto_region 1 with (fail)
    rw [← HW.out.1, ← HW.out.2]
    go_wp2_with fail
    refine (HLV.out _).mono ?_
    rintro _ w1 ⟨rfl, hb1⟩
    have HB1 := Lib.hid (H0.out.1.trans (hb1.mono H0.out.1.size))
    have HC1 := Lib.hid (H0.out.2.below hb1 H0.out.2.lt)
    clear hb1
    go_wp2_with fail
    refine (HPL.out _).mono ?_
    rintro _ w2 ⟨b, rfl, hF, hb2⟩
    have HB2 := Lib.hid (HB1.out.trans (hb2.mono HB1.out.size))
    have HC2 := Lib.hid (HC1.out.below hb2 HC1.out.lt)
    have HF2 := Lib.hid hF
    clear hb2 hF HPL
    have c0 := (HC2.out.cell 0).trans (show _ = some (vi size) from rfl)
    have c1 := (HC2.out.cell 1).trans (show _ = some (.slice AI L cI) from rfl)
    go_wp2_with fail
    refine (HFT.out _).mono ?_
    rintro _ w3 ⟨fb, rfl, hfb, hb3⟩
    have HB3 := Lib.hid (HB2.out.trans (hb3.mono HB2.out.size))
    have HC3 := Lib.hid (HC2.out.below hb3 HC2.out.lt)
    have HF3 := Lib.hid (HF2.out.below hb3 HF2.out.le)
    have HFB := Lib.hid hfb
    clear hb3 hfb HFT c0 c1
    go_wp2
    go_loopw [20, 21] (fun f i wr => ∃ (k : Nat) (g : Bool), k ≤ nR ∧ i = vi k ∧ f = .bool g ∧ (g = true → fb = true ∧ ∀ j (h : j < rows.length), j < k → rows[j].length = 20 + L) ∧ Below w3.heap.size w3 wr) (fun _ i _ => nR - (intOf i).toNat)
    case atStart => exact ⟨0, fb, Nat.zero_le _, rfl, rfl, fun h => ⟨h, fun j _ hj => absurd hj (Nat.not_lt_zero _)⟩, Below.refl _ _⟩
    case round =>
      rename World => w4
      obtain ⟨k, g, hk, rfl, rfl, hg, hb4⟩ := hrel
      by_cases hlt : k < nR
      · have hkr : k < rows.length := by rw [HR.out.m.len]; exact hlt
        have i1 : (0 : Int) ≤ (k : Int) := by omega
        have i2 : (k : Int) < (nR : Int) := by omega
        have i3 : IntKind.i64.wrap ((k : Int) + 1) = (k : Int) + 1 := IntWalk.i64_in _ (by have := HR.out.n24; constructor <;> omega)
        obtain ⟨ad, A1, n1, c1, eAR, hab, hcr, hl1, hn1, hs1, _⟩ := HR.out.m.tb k hkr
        subst eAR
        have hcr4 := (hb4.cell (by have := HB3.out.size; omega)).trans ((HB3.out.cell hab).trans hcr)
        have cc := ((HC3.out.below hb4 HC3.out.lt).cell 1).trans (show _ = some (.slice AI L cI) from rfl)
        have hw20 : IntKind.i64.wrap (20 + (L : Int)) = 20 + (L : Int) := IntWalk.i64_in _ (by have := HC.out.2.1; constructor <;> omega)
        cases g with
        | false =>
          have HB4 := Lib.hid hb4
          clear hg hb4
          go_wp2
          go_quiet (fail)
          go_wp2
          exact ⟨⟨k + 1, false, by omega, by go_num, rfl, (fun h => absurd h (by decide)), below_drewN HB4.out _⟩, by simp [intOf]; omega⟩
        | true =>
          by_cases hw : n1 = 20 + L
          · have hq : ((n1 : Int) == 20 + (L : Int)) = true := by simp; omega
            have HG := Lib.hid (show fb = true ∧ ∀ j (h : j < rows.length), j < k → rows[j].length = 20 + L from by first | exact hg rfl | exact hg trivial)
            have HB4 := Lib.hid hb4
            have HN1 := Lib.hid (And.intro hw hl1)
            clear hg hb4 hw hl1 hs1 hcr
            go_wp2
            go_quiet (fail)
            go_wp2
            refine ⟨⟨k + 1, true, by omega, by go_num, by first | rfl | simp [hq], fun _ => ⟨HG.out.1, fun j hj hjk => ?_⟩, below_drewN HB4.out _⟩, by simp [intOf]; omega⟩
            by_cases e : j < k
            · exact HG.out.2 j hj e
            · obtain rfl : j = k := by omega
              rw [HN1.out.2]; exact HN1.out.1
          · have hq : ((n1 : Int) == 20 + (L : Int)) = false := by simp; omega
            have HB4 := Lib.hid hb4
            clear hg hb4 hw hl1 hs1 hcr
            go_wp2
            go_quiet (fail)
            go_wp2
            exact ⟨⟨k + 1, false, by omega, by go_num, by first | rfl | simp [hq], (fun h => absurd h (by decide)), below_drewN HB4.out _⟩, by simp [intOf]; omega⟩
      · obtain rfl : k = nR := by omega
        have HB4 := Lib.hid (HB3.out.trans (hb4.mono HB3.out.size))
        have HC4 := Lib.hid (HC3.out.below hb4 HC3.out.lt)
        have HF4 := Lib.hid (HF3.out.below hb4 HF3.out.le)
        cases g with
        | false =>
          have HB := Lib.hid HB4.out
          clear hg hb4
          go_wp2
          go_ret
          exact ⟨rfl, HB.out⟩
        | true =>
          have hfull : fb = true ∧ ∀ j (h : j < rows.length), j < k → rows[j].length = 20 + L := by first | exact hg rfl | exact hg trivial
          have HFIT := Lib.hid (HFB.out hfull.1)
          have HWD := Lib.hid (show ∀ l ∈ rows, l.length = 20 + L from fun l hl => by
            obtain ⟨j, hj, rfl⟩ := List.mem_iff_getElem.1 hl
            exact hfull.2 j hj (by rw [← HR.out.m.len]; exact hj))
          clear hg hb4 hfull
          have hn := HFIT.out.n
          have hL64 : L ≤ 64 := HFIT.out.2.2.2.2.1
          have c0 := (HC4.out.cell 0).trans (show _ = some (vi size) from rfl)
          have c1 := (HC4.out.cell 1).trans (show _ = some (.slice AI L cI) from rfl)
          have m4 : IntKind.i64.wrap (4 * (k : Int)) = 4 * (k : Int) := IntWalk.i64_in _ (by constructor <;> omega)
          have m28 : IntKind.i64.wrap ((L : Int) + 28) = (L : Int) + 28 := IntWalk.i64_in _ (by constructor <;> omega)
          have HB := Lib.hid HB4.out
          by_cases e1 : nZ = nX
          rotate_left
          · have q1 : ¬ ((nZ : Int) = (nX : Int)) := by omega
            clear e1
            go_wp2
            go_ret
            exact ⟨rfl, HB.out⟩
          subst e1
          by_cases e2 : 4 * k ≤ nZ
          rotate_left
          · have q2 : decide ((nZ : Int) < 4 * (k : Int)) = true := decide_eq_true (by omega)
            clear e2
            go_wp2
            go_ret
            exact ⟨rfl, HB.out⟩
          have q2 : decide ((nZ : Int) < 4 * (k : Int)) = false := decide_eq_false (by omega)
          by_cases e3 : L + 28 ≤ nA
          rotate_left
          · have q3 : decide ((nA : Int) < (L : Int) + 28) = true := decide_eq_true (by omega)
            clear e3 e2
            go_wp2
            go_ret
            exact ⟨rfl, HB.out⟩
          have q3 : decide ((nA : Int) < (L : Int) + 28) = false := decide_eq_false (by omega)
          by_cases e4 : 0 ≤ size
          rotate_left
          · have q4 : decide (size < 0) = true := decide_eq_true (by omega)
            clear e4 e3 e2
            go_wp2
            go_ret
            exact ⟨rfl, HB.out⟩
          have q4 : decide (size < 0) = false := decide_eq_false (by omega)
          by_cases e5 : size ≤ 65536
          rotate_left
          · have q5 : decide ((65536 : Int) < size) = true := decide_eq_true (by omega)
            clear e5 e4 e3 e2
            go_wp2
            go_ret
            exact ⟨rfl, HB.out⟩
          have q5 : decide ((65536 : Int) < size) = false := decide_eq_false (by omega)
          have HE := Lib.hid (And.intro e2 (And.intro e3 (And.intro e4 e5)))
          have HUX := Lib.hid (fun W (hW : Below w.heap.size w W) => unlike_any q hq2 AX cX xs HX.out.i64 (by have := HX.out.cap; have := HX.out.reach; have := HX.out.len; omega) W (HX.out.sl.below hW))
          have HUA := Lib.hid (fun W (hW : Below w.heap.size w W) => unlike_any q hq2 AA cA bs HA.out.i64 (by have := HA.out.cap; have := HA.out.reach; have := HA.out.len; omega) W (HA.out.sl.below hW))
          have HAP := Lib.hid (fun W (hW : Below w.heap.size w W) => apart_any q hq2 AR k cR rows HR.out.m.len (by omega) (by omega) (fun l hl => by have := HWD.out l hl; omega) y HI.out.2 W (HR.out.m.tb.below hW))
          rw [HX.out.len] at HUX
          rw [HA.out.len] at HUA
          clear e2 e3 e4 e5
          go_wp2_with fail
          refine (HUX.out _ HB4.out).mono ?_
          rintro _ w5 ⟨rfl, hb5⟩
          have HB5 := Lib.hid (HB4.out.trans (hb5.mono HB4.out.size))
          have HF5 := Lib.hid (HF4.out.below hb5 HF4.out.le)
          have HC5 := Lib.hid (HC4.out.below hb5 HC4.out.lt)
          clear hb5 c0 c1 q2 q3 q4 q5
          go_wp2_with fail
          refine (HUA.out _ HB5.out).mono ?_
          rintro _ w6 ⟨rfl, hb6⟩
          have HB6 := Lib.hid (HB5.out.trans (hb6.mono HB5.out.size))
          have HF6 := Lib.hid (HF5.out.below hb6 HF5.out.le)
          have HC6 := Lib.hid (HC5.out.below hb6 HC5.out.lt)
          clear hb6
          go_wp2_with fail
          refine (HAP.out _ HB6.out).mono ?_
          rintro _ w7 ⟨ab, rfl, hab, hb7⟩
          have HB := Lib.hid (HB6.out.trans (hb7.mono HB6.out.size))
          have HF7 := Lib.hid (HF6.out.below hb7 HF6.out.le)
          have HC7 := Lib.hid (HC6.out.below hb7 HC6.out.lt)
          have HAB := Lib.hid hab
          clear hb7 hab HUX HUA HAP
          obtain ⟨ux, hux⟩ : ∃ u, u = ndB (els q xs) := ⟨_, rfl⟩
          obtain ⟨ua, hua⟩ : ∃ u, u = ndB (els q bs) := ⟨_, rfl⟩
          rw [← hux, ← hua]
          have HU := Lib.hid (And.intro hux hua)
          clear hux hua
          cases ux
          case false =>
            go_wp2
            go_ret
            exact ⟨rfl, HB.out⟩
          cases ua
          case false =>
            go_wp2
            go_ret
            exact ⟨rfl, HB.out⟩
          cases ab
          case false =>
            go_wp2
            go_ret
            exact ⟨rfl, HB.out⟩
          have HGN := Lib.hid (fun W => rgen_any q HPR.out hq3 hq2 W)
          have hg0 : el q ((genN q : Nat) : Int) ≠ 0 := (HFIT.out.fit HPR.out).g0
          have HDN := Lib.hid (fun W S F => dnew_ok q S b (8 * k) ((genN q : Nat) : Int) (by have := genN_lt HPR.out; constructor <;> omega) HFIT.out.size8 hg0 W F)
          have e8 : ((8 * k : Nat) : Int) = 8 * (k : Int) := by omega
          rw [e8] at HDN
          have m8 : IntKind.i64.wrap (8 * (k : Int)) = 8 * (k : Int) := IntWalk.i64_in _ (by constructor <;> omega)
          clear hg0 e8
          go_wp2_with fail
          refine (HGN.out _).mono ?_
          rintro _ _ ⟨rfl, rfl⟩
          go_wp2_with fail
          refine (HDN.out _ _ HF7.out).mono ?_
          rintro _ w8 ⟨D, rfl, hD, hb8, _⟩
          have HB8 := Lib.hid (HB.out.trans (hb8.mono HB.out.size))
          have HF8 := Lib.hid (HF7.out.below hb8 HF7.out.le)
          have HC8 := Lib.hid (HC7.out.below hb8 HC7.out.lt)
          have HD8 := Lib.hid hD
          clear hb8 hD m8 HDN HGN
          go_wp2
          obtain ⟨CW, hCW⟩ : ∃ CW : Nat → Nat → Bool, CW = fun i m => cwB q (8 * k) (genE q) (4 * (k : Int)) (wordV k code size (el q outc) (el q y) (el q (xs.getD i 0)) (el q (bs.getD m 0)) (colsR q k L rows (zss.getD i []))) := ⟨_, rfl⟩
          have HCW := Lib.hid hCW
          clear hCW
          have hXl : nZ ≤ 17592186044415 := by have := HX.out.cap; have := HX.out.reach; omega
          have hAl : nA ≤ 17592186044415 := by have := HA.out.cap; have := HA.out.reach; omega
          go_loopw [28] (fun i wr => ∃ I : Nat, I ≤ nZ ∧ i = vi I ∧ (∀ j, j < I → (zss.getD j []).length = k ∧ ∀ m, m < nA → CW j m = true) ∧ Below w8.heap.size w8 wr) (fun i _ => nZ - (intOf i).toNat)
          case atStart => exact ⟨0, Nat.zero_le _, rfl, fun j hj => absurd hj (Nat.not_lt_zero _), Below.refl _ _⟩
          case round =>
            rename World => w9
            obtain ⟨I, hI, rfl, hok, hb9⟩ := hrel
            by_cases hIn : I < nZ
            · have HOK := Lib.hid hok
              have HB9 := Lib.hid hb9
              have HBW := Lib.hid (HB8.out.trans (hb9.mono HB8.out.size))
              have hIz : I < zss.length := by rw [HZ.out.m.len]; exact hIn
              have hIx : I < xs.length := by rw [HX.out.len]; exact hIn
              obtain ⟨adz, A1, n1, c1, eAZ, hab, hcz, hl1, hn1, hs1, hi1⟩ := HZ.out.m.tb I hIz
              subst eAZ
              have ez : zss.getD I [] = zss[I] := by rw [List.getD_eq_getElem?_getD, List.getElem?_eq_getElem hIz]; rfl
              have ex : xs.getD I 0 = xs[I] := by rw [List.getD_eq_getElem?_getD, List.getElem?_eq_getElem hIx]; rfl
              obtain ⟨adx, eAX, hxb, hcx⟩ := HX.out.sl.at_ (k := I) hIx
              subst eAX
              obtain ⟨zI, hzI⟩ : ∃ z, z = zss[I] := ⟨_, rfl⟩
              obtain ⟨xI, hxI⟩ : ∃ x, x = xs[I] := ⟨_, rfl⟩
              have hxi : I64 xI := by rw [hxI]; exact HX.out.i64 _ (List.getElem_mem _)
              rw [← hzI] at hl1 hs1 hi1 ez
              rw [← hxI] at hcx ex
              have HZI := Lib.hid (And.intro ez (And.intro ex (And.intro hl1 (And.intro hs1 (And.intro hi1 hxi)))))
              have KX : Hid (∀ W, Below w.heap.size w W → W.cell? (adz.add I) = some (.slice A1 n1 c1) ∧ W.cell? (adx.add I) = some (vi xI)) := Lib.hid fun W hW => ⟨(hW.cell hab).trans hcz, (hW.cell (block_lt_of_cell hcx)).trans hcx⟩
              have i1 : (0 : Int) ≤ (I : Int) := by omega
              have i2 : (I : Int) < (nZ : Int) := by omega
              have i3 : IntKind.i64.wrap ((I : Int) + 1) = (I : Int) + 1 := IntWalk.i64_in _ (by constructor <;> omega)
              have kz := (KX.out _ HBW.out).1
              clear hok hb9 hab hcz hl1 hs1 hi1 hcx hxb hxi hzI hxI ez ex
              by_cases hzk : n1 = k
              rotate_left
              · have q1 : ¬ ((n1 : Int) = (k : Int)) := by omega
                have HB := Lib.hid HBW.out
                clear hzk
                go_wp2
                go_ret
                exact ⟨rfl, HB.out⟩
              subst hzk
              go_wp2
              clear kz
              go_loopw [29] (fun i wr => ∃ J : Nat, J ≤ nA ∧ i = vi J ∧ (∀ m, m < J → CW I m = true) ∧ Below w9.heap.size w9 wr) (fun i _ => nA - (intOf i).toNat)
              case atStart => exact ⟨0, Nat.zero_le _, rfl, fun j hj => absurd hj (Nat.not_lt_zero _), Below.refl _ _⟩
              case round =>
                rename World => w10
                obtain ⟨J, hJ, rfl, hoj, hb10⟩ := hrel
                have hb810 := HB9.out.trans (hb10.mono HB9.out.size)
                have hbw10 := HB8.out.trans (hb810.mono HB8.out.size)
                have HOJ := Lib.hid hoj
                have HB10 := Lib.hid (And.intro hb10 (And.intro hb810 hbw10))
                clear hoj hb10 hb810 hbw10
                by_cases hJn : J < nA
                · have hJa : J < bs.length := by rw [HA.out.len]; exact hJn
                  obtain ⟨ada, eAA, hacb, hca⟩ := HA.out.sl.at_ (k := J) hJa
                  subst eAA
                  obtain ⟨aJ, haJ⟩ : ∃ x, x = bs[J] := ⟨_, rfl⟩
                  have hai : I64 aJ := by rw [haJ]; exact HA.out.i64 _ (List.getElem_mem _)
                  rw [← haJ] at hca
                  have ea : bs.getD J 0 = aJ := by rw [List.getD_eq_getElem?_getD, List.getElem?_eq_getElem hJa, haJ]; rfl
                  have j1 : (0 : Int) ≤ (J : Int) := by omega
                  have j2 : (J : Int) < (nA : Int) := by omega
                  have j3 : IntKind.i64.wrap ((J : Int) + 1) = (J : Int) + 1 := IntWalk.i64_in _ (by constructor <;> omega)
                  have m4 : IntKind.i64.wrap (4 * (n1 : Int)) = 4 * (n1 : Int) := IntWalk.i64_in _ (by constructor <;> omega)
                  have HCM := Lib.hid (fun W (hW : Below w8.heap.size w8 W) => Compose_any _ b q n1 size AI L cI code AR cR rows A1 c1 zI outc xI y aJ HI.out.1 HZI.out.2.2.2.2.2 HI.out.2 hai HC.out.1 HFIT.out HC.out.2.2.2 HR.out.m.len HWD.out HZI.out.2.2.1 HZI.out.2.2.2.2.1 W (HF8.out.below hW HF8.out.le) (HC.out.2.2.1.below (HB8.out.trans (hW.mono HB8.out.size))) (HR.out.m.tb.below (HB8.out.trans (hW.mono HB8.out.size))) (HZI.out.2.2.2.1.below (HB8.out.trans (hW.mono HB8.out.size))))
                  have HCWJ := Lib.hid (show CW I J = cwB q (8 * n1) (genE q) (4 * (n1 : Int)) (wordV n1 code size (el q outc) (el q y) (el q xI) (el q aJ) (colsR q n1 L rows zI)) by rw [HCW.out]; simp only [HZI.out.1, HZI.out.2.1, ea])
                  have KS : Hid (∀ W, Below w8.heap.size w8 W → W.cell? ⟨k9, 0, none⟩ = some (vi size) ∧ W.cell? ⟨k9, 1, none⟩ = some (.slice AI L cI) ∧ W.cell? (adz.add I) = some (.slice A1 n1 c1) ∧ W.cell? (adx.add I) = some (vi xI) ∧ W.cell? (ada.add J) = some (vi aJ)) := Lib.hid fun W hW => by
                    have hw := HB8.out.trans (hW.mono HB8.out.size)
                    have hC := HC8.out.below hW HC8.out.lt
                    exact ⟨(hC.cell 0).trans rfl, (hC.cell 1).trans rfl, (KX.out W hw).1, (KX.out W hw).2, (hw.cell (block_lt_of_cell hca)).trans hca⟩
                  have HCA := Lib.hid (And.intro hca hacb)
                  clear hca hacb ea hai haJ
                  go_upto_region 30 with (fail)
                  refine wp_region_held_drew (S := fun W => W.cell? ⟨k9, 0, none⟩ = some (vi size) ∧ W.cell? ⟨k9, 1, none⟩ = some (.slice AI L cI) ∧ W.cell? (adz.add I) = some (.slice A1 n1 c1) ∧ W.cell? (adx.add I) = some (vi xI) ∧ W.cell? (ada.add J) = some (vi aJ)) (by kernel_rfl) (KS.out _ (below_drewN HB10.out.2.1 1)) (fun hHeld => ?_)
                  refine tkH 0 ?_
                  refine tkH 1 ?_
                  refine tkH 2 ?_
                  refine tkH 3 ?_
                  refine tkH 4 ?_
                  refine tkH 5 ?_
                  refine tkH 6 ?_
                  refine tkH 7 ?_
                  refine tkH 8 ?_
                  refine tkH 9 ?_
                  refine tkH 10 ?_
                  refine tkH 11 ?_
                  refine tkH 12 ?_
                  refine tkH 13 ?_
                  refine tkH 14 ?_
                  refine tkH 15 ?_
                  refine tkH 16 ?_
                  refine stH 17 (fun K hK => ?_)
                  go_simp
                  refine (HCM.out _ (below_drewN HB10.out.2.1 1)).mono ?_
                  rintro _ w11 ⟨v, rfl, hO, hb11⟩
                  have HO11 := Lib.hid hO
                  have HB11 := Lib.hid (And.intro ((below_drewN HB10.out.1 1).trans (hb11.mono HB10.out.1.size)) ((below_drewN HB10.out.2.1 1).trans (hb11.mono HB10.out.2.1.size)))
                  clear hO hb11
                  refine hK.out _ _ (KS.out _ HB11.out.2) (fun hHeld => ?_)
                  clear hK K
                  (try simp only [Act.put, List.setIfInBounds_toArray, List.set_cons_zero, List.set_cons_succ])
                  refine tkH 18 ?_
                  refine tkH 19 ?_
                  refine tkH 20 ?_
                  refine tkH 21 ?_
                  refine tkH 22 ?_
                  refine wpAnyH_done (by kernel_rfl) ?_ _
                  obtain ⟨A2, c2, hv2, hs2⟩ := HO11.out.len
                  have hwl : (wordV n1 code size (el q outc) (el q y) (el q xI) (el q aJ) (colsR q n1 L rows zI)).length = 8 * n1 := by simp [wordV]
                  rw [hwl] at hv2
                  subst hv2
                  have HIS := Lib.hid (is_any q _ D b (8 * n1) (genE q) (4 * (n1 : Int)) A2 (8 * n1) c2 _ hwl (fun x hx => by
                    obtain ⟨i, _, rfl⟩ := List.mem_map.1 hx
                    exact i64_fv _ hq2) w11 (HD8.out.below HB11.out.2 HD8.out.le) hs2)
                  rw [← HCWJ.out] at HIS
                  clear hs2 hwl
                  go_wp2_with fail
                  refine HIS.out.mono ?_
                  rintro _ w12 ⟨rfl, hb12⟩
                  have HB12 := Lib.hid (HB11.out.1.trans (hb12.mono HB11.out.1.size))
                  clear hb12
                  obtain ⟨cw, hcw⟩ : ∃ c, c = CW I J := ⟨_, rfl⟩
                  rw [← hcw]
                  have HCC := Lib.hid hcw
                  clear hcw
                  cases cw
                  case false =>
                    have HB := Lib.hid (HBW.out.trans (HB12.out.mono HBW.out.size))
                    go_wp2
                    go_ret
                    exact ⟨rfl, HB.out⟩
                  case true =>
                    go_wp2
                    refine ⟨⟨J + 1, by omega, by go_num, fun m hm => ?_, HB12.out⟩, by simp [intOf]; omega⟩
                    by_cases e : m < J
                    · exact HOJ.out m e
                    · obtain rfl : m = J := by omega
                      exact HCC.out.symm
                · obtain rfl : J = nA := by omega
                  go_wp2
                  refine ⟨⟨I + 1, by omega, by go_num, fun j hj => ?_, HB10.out.2.1⟩, by simp [intOf]; omega⟩
                  by_cases e : j < I
                  · exact HOK.out j e
                  · obtain rfl : j = I := by omega
                    exact ⟨by rw [HZI.out.1]; exact HZI.out.2.2.1, HOJ.out⟩
            · obtain rfl : I = nZ := by omega
              have HOK := Lib.hid hok
              have HB9 := Lib.hid hb9
              clear hok hb9
              have hres := tsound_plain HFIT.out HPR.out HR.out.m.len HC.out.1 (size := size) (outc := outc) (y := y) (xs := xs) (bs := bs) (zss := zss) HU.out.1.symm HU.out.2.symm (HAB.out (by first | rfl | trivial)) (by rw [HX.out.len]; exact HE.out.1) (by rw [HA.out.len]; exact HE.out.2.1) (fun i hi => by
                obtain ⟨h1, h2⟩ := HOK.out i (by rw [← HX.out.len]; exact hi)
                refine ⟨h1, fun m hm => ?_⟩
                have h3 := h2 m (by rw [← HA.out.len]; exact hm)
                rw [HCW.out] at h3
                simp only at h3
                rw [show xs.getD i 0 = xs[i] by rw [List.getD_eq_getElem?_getD, List.getElem?_eq_getElem hi]; rfl, show bs.getD m 0 = bs[m] by rw [List.getD_eq_getElem?_getD, List.getElem?_eq_getElem hm]; rfl] at h3
                exact h3)
              have el1 : ((k - 1 : Nat) : Int) = (k : Int) - 1 := by omega
              have m1 : IntKind.i64.wrap ((k : Int) - 1) = (k : Int) - 1 := IntWalk.i64_in _ (by constructor <;> omega)
              have HBG := fun (R : RunR q) (hrun : runM code (k - 1) ⟨0, 1, 1 + el q size, 0, mem0⟩ = R) (hR : R = .blank ∨ ∃ v, R = .out v) W (hW : Below w9.heap.size w9 W) => begun_any (by omega) hq2 b size HE.out.2.2.1 HE.out.2.2.2 AI L cI code HC.out.1 HFIT.out.2.2.2.1 (by omega) HFIT.out.2.2.2.2.2 (k - 1) (by omega) R hrun hR W (HF8.out.below (HB9.out.trans (hW.mono HB9.out.size)) HF8.out.le).c0 (HC.out.2.2.1.below (HB8.out.trans ((HB9.out.trans (hW.mono HB9.out.size)).mono HB8.out.size)))
              have hC9 := HC8.out.below HB9.out HC8.out.lt
              have c0 := (hC9.cell 0).trans (show _ = some (vi size) from rfl)
              have c1 := (hC9.cell 1).trans (show _ = some (.slice AI L cI) from rfl)
              have HOF := Lib.hid (fun W => rof_any q hq2 outc HI.out.1 W)
              rcases hres with hrun | hrun
              · have HRN := Run_no (p := q) b size AI L cI (k - 1) w9 (fun W hW => HBG _ hrun (.inl rfl) W hW)
                rw [el1] at HRN
                have HRN := Lib.hid HRN
                clear hrun HBG hC9 el1
                go_wp2_with fail
                refine HRN.out.mono ?_
                rintro _ w10 ⟨rfl, hb10⟩
                have HB10 := Lib.hid (HB8.out.trans ((HB9.out.trans (hb10.mono HB9.out.size)).mono HB8.out.size))
                clear hb10 c0 c1
                go_wp2_with fail
                refine (HOF.out _).mono ?_
                rintro _ _ ⟨rfl, rfl⟩
                have HE7 := Lib.hid (fun W (hW : Below w.heap.size w W) => error_any 10 7 W (HT.out.below hW))
                have HE8 := Lib.hid (fun W (hW : Below w.heap.size w W) => error_any 10 8 W (HT.out.below hW))
                rw [errV_ne (by decide)] at HE7 HE8
                have f7 : ((10 : Int) == 7) = false := by decide
                have f8 : ((10 : Int) == 8) = false := by decide
                rw [f7] at HE7
                rw [f8] at HE8
                have hbq : Below w.heap.size w (w10.alloc (.cells #[vi 0, vi 0, .slice none 0 0] 44)) := HB10.out.alloc HB10.out.size _
                have HBQ := Lib.hid hbq
                clear f7 f8 hbq
                go_wp2_with fail
                refine (HE7.out _ HBQ.out).mono ?_
                rintro _ w11 ⟨rfl, hb11⟩
                have HB11 := Lib.hid (HBQ.out.trans (hb11.mono HBQ.out.size))
                clear hb11
                go_wp2_with fail
                refine (HE8.out _ HB11.out).mono ?_
                rintro _ w12 ⟨rfl, hb12⟩
                have HB := Lib.hid (HB11.out.trans (hb12.mono HB11.out.size))
                clear hb12
                go_wp2
                go_ret
                exact ⟨rfl, HB.out⟩
              · have HRN := Run_yes (p := q) hq2 b size AI L cI (k - 1) (el q outc) w9 HSC.out (fun W hW => HBG _ hrun (.inr ⟨_, rfl⟩) W hW)
                rw [el1] at HRN
                have HRN := Lib.hid HRN
                clear hrun HBG hC9 el1
                go_wp2_with fail
                refine HRN.out.mono ?_
                rintro _ w10 ⟨d, A9, n9, rfl, hb10⟩
                have HB10 := Lib.hid (HB8.out.trans ((HB9.out.trans (hb10.mono HB9.out.size)).mono HB8.out.size))
                clear hb10 c0 c1
                go_wp2_with fail
                refine (HOF.out _).mono ?_
                rintro _ _ ⟨rfl, rfl⟩
                have HB := Lib.hid (show Below w.heap.size w (w10.alloc (.cells #[vi (fv (el q outc)), vi d, .slice A9 n9 n9] 44)) from HB10.out.alloc HB10.out.size _)
                go_wp2
                go_ret
                exact ⟨rfl, HB.out⟩
  · have HPL := Lib.hid (fun w => tplain_none p w hF)
    clear hF
    go_enter Tryz.func3, Tryz.ntmps3
    go_upto_region 1 with (fail)
    rw [← HW.out.1, ← HW.out.2]
    go_wp2_with fail
    refine (HLV.out _).mono ?_
    rintro _ w1 ⟨rfl, hb1⟩
    have HB1 := Lib.hid (H0.out.1.trans (hb1.mono H0.out.1.size))
    clear hb1
    go_wp2_with fail
    refine (HPL.out _).mono ?_
    rintro _ w2 ⟨rfl, hb2⟩
    have HB := Lib.hid (HB1.out.trans (hb2.mono HB1.out.size))
    clear hb2
    go_wp2
    go_ret
    exact ⟨rfl, HB.out⟩
end Go.Proofs.YtpkhcncempoohaaGreatDoor

namespace Go.Proofs.YtpkhcncempoohaaGreatDoor
open Go.RowKit Zp
set_option maxRecDepth 100000 in
set_option maxHeartbeats 4000000 in
theorem livesT : LivesT := fun w => by
  have HPL : Hid (Calls Tryz.prog 5 #[vi 12289] w fun e w' => ∃ b, e = .returned (.pointer (some ⟨b, 0, none⟩)) ∧ w'.cell? ⟨b, 0, none⟩ = some (vi 12289) ∧ Below w.heap.size w w') := Lib.hid ((tplain_some 12289 (by decide) (by decide) prime12289 w).mono fun e w' ⟨b, h1, h2, h3⟩ => ⟨b, h1, h2.c0, h3⟩)
  have HPA := Lib.hid (fun W => parse_any W)
  have HCO : Hid (∀ b q W, W.cell? ⟨b, 0, none⟩ = some (vi 12289) → ProgT W q → Calls Tryz.prog 17 #[.pointer (some ⟨b, 0, none⟩), .pointer (some ⟨q, 0, none⟩)] W fun e w' => ∃ g, e = .returned (.tuple #[.agg #[vi 2, .slice (some ⟨g, 0, none⟩) 9 9], .nilIface]) ∧ Reads w' w'.heap.size 4 (some ⟨g, 0, none⟩) 9 (codeL.flatMap encI) ∧ Below W.heap.size W w') := Lib.hid fun b q W h1 h2 => Code_any b q 12289 (by decide) W h1 h2
  have HWI : Hid (∀ b g gA W, W.cell? ⟨b, 0, none⟩ = some (vi 12289) → Reads W W.heap.size 4 (some ⟨g, 0, none⟩) 9 (codeL.flatMap encI) → W.cell? ⟨gA, 0, none⟩ = some (vi 6) → Calls Tryz.prog 18 #[.pointer (some ⟨b, 0, none⟩), .agg #[vi 2, .slice (some ⟨g, 0, none⟩) 9 9], .slice (some ⟨gA, 0, none⟩) 1 1] W fun e w' => ∃ g, e = .returned (.tuple #[.agg #[vi 2, .slice (some ⟨g, 0, none⟩) 9 9], .nilIface]) ∧ Reads w' w'.heap.size 4 (some ⟨g, 0, none⟩) 9 (codeL6.flatMap encI) ∧ Below W.heap.size W w') := Lib.hid fun b g gA W h1 h2 h3 => With_any b g gA 0 12289 (by decide) (by decide) W h1 h2 h3
  have HRU : Hid (∀ b g W, W.cell? ⟨b, 0, none⟩ = some (vi 12289) → Reads W W.heap.size 4 (some ⟨g, 0, none⟩) 9 (codeL6.flatMap encI) → Calls Tryz.prog 13 #[.pointer (some ⟨b, 0, none⟩), .agg #[vi 2, .slice (some ⟨g, 0, none⟩) 9 9], vi 200] W fun e w' => ∃ (d : Nat) (A : Option Addr) (n : Nat), e = .returned (.tuple #[.agg #[vi 42, vi d, .slice A n n], .nilIface]) ∧ Below W.heap.size W w') := Lib.hid fun b g W h1 h2 => Run_yes (p := 12289) (by decide) b 2 (some ⟨g, 0, none⟩) 9 9 200 (el 12289 42) W sortC_any fun W2 hW2 => begun_any (p := 12289) (by decide) (by decide) b 2 (by omega) (by omega) (some ⟨g, 0, none⟩) 9 9 codeL6 rfl (by omega) (by omega) (by omega) 200 (by omega) _ lives_run (.inr ⟨_, rfl⟩) W2 ((hW2.cell (block_lt_of_cell h1)).trans h1) ((IT.of_reads h2 rfl codeL6_ok).below hW2)
  have hi : ∀ X : World, X.heap.size = X.heap.size := fun _ => rfl
  clear hi
  go_enter Tryz.func4, Tryz.ntmps4
  go_wp2_with fail
  refine HPL.out.mono ?_
  rintro _ w1 ⟨b, rfl, hc1, hb1⟩
  have H1 := Lib.hid (And.intro hc1 hb1)
  clear hc1 hb1
  go_wp2_with fail
  refine (HPA.out w1).mono ?_
  rintro _ w2 ⟨q, rfl, hP2, hb2⟩
  have H2 := Lib.hid (And.intro ((hb2.cell (block_lt_of_cell H1.out.1)).trans H1.out.1) (And.intro (H1.out.2.trans (hb2.mono H1.out.2.size)) hP2))
  clear hb2 hP2
  go_wp2_with fail
  refine (HCO.out b q w2 H2.out.1 H2.out.2.2).mono ?_
  rintro _ w3 ⟨g, rfl, hr3, hb3⟩
  have H3 := Lib.hid (And.intro ((hb3.cell (block_lt_of_cell H2.out.1)).trans H2.out.1) (And.intro (H2.out.2.1.trans (hb3.mono H2.out.2.1.size)) hr3))
  clear hb3 hr3
  go_upto_region 10 with (fail)
  obtain ⟨c5, hc5⟩ : ∃ c, c = w3.heap.size := ⟨_, rfl⟩
  obtain ⟨w4, hw4⟩ : ∃ W, W = w3.alloc (.cells #[vi 2, .slice (some ⟨g, 0, none⟩) 9 9] 24) := ⟨_, rfl⟩
  rw [← hw4, ← hc5]
  have hb4 : Below w3.heap.size w3 w4 := by rw [hw4]; exact (Below.refl _ _).alloc (Nat.le_refl _) _
  have hB4 : Blk w4 c5 24 #[vi 2, .slice (some ⟨g, 0, none⟩) 9 9] := by rw [hw4, hc5]; exact Blk.new _ _ _
  have x0 := (hB4.cell 0).trans (show _ = some (vi 2) from rfl)
  have x1 := (hB4.cell 1).trans (show _ = some (.slice (some ⟨g, 0, none⟩) 9 9) from rfl)
  have hb5 : Below w4.heap.size w4 (w4.alloc (.cells #[vi 6] 3)) := (Below.refl _ _).alloc (Nat.le_refl _) _
  have hA5 := ((Blk.new w4 3 #[vi 6]).cell 0).trans (show _ = some (vi 6) from rfl)
  have hb35 : Below w3.heap.size w3 (w4.alloc (.cells #[vi 6] 3)) := hb4.trans (hb5.mono hb4.size)
  have H5 := Lib.hid (And.intro ((hb35.cell (block_lt_of_cell H3.out.1)).trans H3.out.1) (And.intro ((Reads.below H3.out.2.2 hb35).more hb35.size) (And.intro hA5 (And.intro (hB4.below hb5 hB4.lt) (And.intro (H3.out.2.1.trans (hb35.mono H3.out.2.1.size)) (show w.heap.size ≤ c5 ∧ b ≠ c5 by rw [hc5]; exact ⟨H3.out.2.1.size, Nat.ne_of_lt (block_lt_of_cell H3.out.1)⟩))))))
  clear hc5 hw4 hb4 hB4 hb5 hA5 hb35
  go_wp2_with fail
  refine (HWI.out b g w4.heap.size _ H5.out.1 H5.out.2.1 H5.out.2.2.1).mono ?_
  rintro _ w6 ⟨g6, rfl, hr6, hb6⟩
  have hB6 := H5.out.2.2.2.1.below hb6 H5.out.2.2.2.1.lt
  have y0 := (hB6.cell 0).trans (show _ = some (vi 2) from rfl)
  have y1 := (hB6.cell 1).trans (show _ = some (.slice (some ⟨g, 0, none⟩) 9 9) from rfl)
  have f0 := hB6.frozen 0
  have f1 := hB6.frozen 1
  have H6 := Lib.hid (And.intro ((hb6.cell (block_lt_of_cell H5.out.1)).trans H5.out.1) (And.intro hr6 (And.intro hB6 (H5.out.2.2.2.2.1.trans (hb6.mono H5.out.2.2.2.2.1.size)))))
  clear hr6 hb6 hB6 x0 x1
  go_upto_region 11 with (fail)
  obtain ⟨w7, hw7⟩ : ∃ X, X = (w6.setCell ⟨c5, 0, none⟩ (vi 2)).setCell ⟨c5, 1, none⟩ (.slice (some ⟨g6, 0, none⟩) 9 9) := ⟨_, rfl⟩
  rw [← hw7]
  have hB7 : Blk w7 c5 24 #[vi 2, .slice (some ⟨g6, 0, none⟩) 9 9] := by rw [hw7]; exact (H6.out.2.2.1.set_ 0 _).set_ 1 _
  have hb7 : Below w.heap.size w w7 := by rw [hw7]; exact (H6.out.2.2.2.setCell H5.out.2.2.2.2.2.1 _).setCell H5.out.2.2.2.2.2.1 _
  have hsz7 : w7.heap.size = w6.heap.size := by rw [hw7]; simp
  have hkeep : ∀ k, k ≠ c5 → w7.heap[k]? = w6.heap[k]? := fun k hk => by
    rw [hw7]
    exact (Below.heap_setCell _ ⟨c5, 1, none⟩ _ k hk).trans (Below.heap_setCell _ ⟨c5, 0, none⟩ _ k hk)
  have hg6 : g6 ≠ c5 := fun e => by
    obtain ⟨ad, e1, e2, e3⟩ := H6.out.2.1.2 (by omega)
    injection e1 with e1
    have e4 := e3 0 (vi 5) rfl
    rw [← e1, e, show (⟨c5, 0, none⟩ : Addr).add 0 = ⟨c5, 0, none⟩ from rfl, y0] at e4
    injection e4 with e4
    injection e4 with _ e4
    revert e4
    decide
  have hR7 : Reads w7 w7.heap.size 4 (some ⟨g6, 0, none⟩) 9 (codeL6.flatMap encI) := ⟨H6.out.2.1.1, fun h9 => by
    obtain ⟨ad, e1, e2, e3⟩ := H6.out.2.1.2 h9
    refine ⟨ad, e1, by rw [hsz7]; exact e2, fun j u hj => ?_⟩
    injection e1 with e1
    have e4 := e3 j u hj
    rw [← e1, addr0] at e4 ⊢
    exact (World.cell?_of_block (hkeep g6 hg6)).trans e4⟩
  have hC7 : w7.cell? ⟨b, 0, none⟩ = some (vi 12289) := (World.cell?_of_block (hkeep b H5.out.2.2.2.2.2.2)).trans H6.out.1
  have z0 := (hB7.cell 0).trans (show _ = some (vi 2) from rfl)
  have z1 := (hB7.cell 1).trans (show _ = some (.slice (some ⟨g6, 0, none⟩) 9 9) from rfl)
  have H7 := Lib.hid (And.intro hC7 (And.intro hR7 hb7))
  clear hw7 hB7 hb7 hsz7 hkeep hg6 hR7 hC7 y0 y1 f0 f1
  go_wp2_with fail
  refine (HRU.out b g6 w7 H7.out.1 H7.out.2.1).mono ?_
  rintro _ w8 ⟨d, A, n, rfl, hb8⟩
  have H8 := Lib.hid (H7.out.2.2.trans (hb8.mono H7.out.2.2.size))
  clear hb8 z0 z1
  go_upto_region 14 with (fail)
  obtain ⟨c6, hc6⟩ : ∃ c, c = w8.heap.size := ⟨_, rfl⟩
  obtain ⟨w9, hw9⟩ : ∃ W, W = w8.alloc (.cells #[vi 42, vi d, .slice A n n] 44) := ⟨_, rfl⟩
  rw [← hw9, ← hc6]
  have q0 : w9.cell? ⟨c6, 0, none⟩ = some (vi 42) := by rw [hw9, hc6]; exact ((Blk.new w8 _ _).cell 0).trans rfl
  have H9 := Lib.hid (show Below w.heap.size w w9 by rw [hw9]; exact H8.out.alloc H8.out.size _)
  clear hw9 hc6
  go_wp2
  go_ret
  exact ⟨rfl, H9.out⟩
end Go.Proofs.YtpkhcncempoohaaGreatDoor

namespace Go.Proofs.YtpkhcncempoohaaGreatDoor
open Go.RowKit Go.ChangeShapes Go.WideShapes Go.ChangeAt
theorem sized_agg {H : Type} {P : Program} {ts : List TypeId} {ds : List (DataW H)} (h : (DataW.weightsEach P ts ds).all (· ≤ reachBytes) = true) {j : Nat} {t : TypeId} {fs : Array Field} {parts : List (DataW H)} (ht : ts[j]? = some t) (hd : ds[j]? = some (.agg parts)) (hu : P.underlying t = some (.struct fs)) :
    (DataW.weightsEach P (fs.toList.map (·.type)) parts).all (· ≤ reachBytes) = true := by
  rw [List.all_eq_true]
  intro n hn
  refine List.all_eq_true.1 h n (DataW.weights_mem_each ht hd n ?_)
  simp only [DataW.weights, hu]; exact hn
end Go.Proofs.YtpkhcncempoohaaGreatDoor

namespace Go.Proofs.YtpkhcncempoohaaGreatDoor
open Go.RowKit Go.ChangeShapes Go.WideShapes Go.ChangeAt Go.Deep
theorem bytesIns : Tryz.prog.bytesOf 121 = 32 := by kernel_rfl
theorem cellsIns : Tryz.prog.cellsOf 121 = 4 := by kernel_rfl
theorem i64_wfI {a : Int} (h : (Lit.int .i64 a).wf = true) : I64 a := by
  simpa [Lit.wf, IntKind.min, IntKind.max, IntKind.signed, IntKind.bits] using h
theorem list_ofI {α : Type} {P : Nat → α → Prop} : ∀ (n : Nat), (∀ k, k < n → ∃ x, P k x) → ∃ l : List α, l.length = n ∧ ∀ k (h : k < l.length), P k l[k]
  | 0, _ => ⟨[], rfl, fun k h => by simp at h⟩
  | n + 1, h => by
    obtain ⟨l, h1, h2⟩ := list_ofI n (fun k hk => h k (by omega))
    obtain ⟨x, hx⟩ := h n (by omega)
    refine ⟨l ++ [x], by simp [h1], fun k hk => ?_⟩
    by_cases e : k < l.length
    · rw [List.getElem_append_left e]
      exact h2 k e
    · have ek : k = n := by simp at hk; omega
      subst ek
      rw [List.getElem_append_right (by omega)]
      simp only [h1, Nat.sub_self, List.getElem_singleton]
      exact hx
set_option maxRecDepth 100000 in
set_option maxHeartbeats 1000000 in
theorem arg_code {H : Type} {enc : TypeId × Value → H} {tys : List TypeId} {ds : List (DataW H)} (hsz : (DataW.weightsEach Tryz.prog tys ds).all (· ≤ reachBytes) = true) {j : Nat} (ht : tys[j]? = some 22) {W : World} {n : Nat} {u : Value} {y : DataW H × List MemPlace} (hd : ds[j]? = some y.1)
    (hf : DataW.trod enc Tryz.prog W 0 (fun _ => true) true n 22 [u] = some y) : ∃ A len cap code, u = .slice A len cap ∧ code.length = len ∧ len ≤ 4398046511104 ∧ IT W A code := by
  rcases open_slice Tryz.underlying22 hf with ⟨hcs, hx⟩ | ⟨a, len, cap, m, n', D, Pl, hcs, _, hl, hm, hmm, hx, hi⟩
  · simp at hcs
    subst hcs
    exact ⟨none, 0, 0, [], rfl, rfl, by omega, IT.nil _ _⟩
  · simp at hcs
    subst hcs
    rw [hx] at hd
    simp only [if_true] at hmm
    subst hmm
    rw [cellsIns] at hi
    have hmx : len ≤ 4398046511104 := by
      have h := sized_slice hsz (j := j) (t := 22) (e := 121) ht hd Tryz.underlying22
      rw [bytesIns] at h
      simp only [List.length_map, List.length_range, reachBytes] at h
      omega
    have hel : ∀ k, k < len → ∃ x : InsI, ITE W a k x := fun k hk => by
      obtain ⟨cs', hc, ht'⟩ := hi k (by omega)
      obtain ⟨ys, n2, _, hy, hlen, hyl, hg⟩ := DataW.trod_struct Tryz.underlying121 ht'
      obtain ⟨_, hcl, hat⟩ := World.cells?_some hc
      have hcl4 : cs'.length = 4 := hcl
      have hys4 : ys.length = 4 := hyl
      obtain ⟨c0, c1, c2, c3, rfl⟩ : ∃ a b c d, cs' = [a, b, c, d] := by
        match cs', hcl4 with
        | [a, b, c, d], _ => exact ⟨a, b, c, d, rfl⟩
      obtain ⟨y0, y1, y2, y3, rfl⟩ : ∃ a b c d, ys = [a, b, c, d] := by
        match ys, hys4 with
        | [a, b, c, d], _ => exact ⟨a, b, c, d, rfl⟩
      have k1 : Tryz.prog.cellsOf 3 = 1 := by kernel_rfl
      have g0 := hg 0 _ rfl
      have g1 := hg 1 _ rfl
      have g2 := hg 2 _ rfl
      have g3 := hg 3 _ rfl
      change DataW.trod enc Tryz.prog W 0 (fun _ => true) true n2 3 ((([c0, c1, c2, c3] : List Value).drop 0).take (Tryz.prog.cellsOf 3)) = some y0 at g0
      change DataW.trod enc Tryz.prog W 0 (fun _ => true) true n2 3 ((([c0, c1, c2, c3] : List Value).drop 1).take (Tryz.prog.cellsOf 3)) = some y1 at g1
      change DataW.trod enc Tryz.prog W 0 (fun _ => true) true n2 3 ((([c0, c1, c2, c3] : List Value).drop 2).take (Tryz.prog.cellsOf 3)) = some y2 at g2
      change DataW.trod enc Tryz.prog W 0 (fun _ => true) true n2 3 ((([c0, c1, c2, c3] : List Value).drop 3).take (Tryz.prog.cellsOf 3)) = some y3 at g3
      rw [k1] at g0 g1 g2 g3
      obtain ⟨i0, e0, _, w0⟩ := DataW.trod_int Tryz.underlying3 g0
      obtain ⟨i1, e1, _, w1⟩ := DataW.trod_int Tryz.underlying3 g1
      obtain ⟨i2, e2, _, w2⟩ := DataW.trod_int Tryz.underlying3 g2
      obtain ⟨i3, e3, _, w3⟩ := DataW.trod_int Tryz.underlying3 g3
      simp at e0 e1 e2 e3
      subst e0 e1 e2 e3
      have h0 := hat 0 (by omega)
      have h1 := hat 1 (by omega)
      have h2 := hat 2 (by omega)
      have h3 := hat 3 (by omega)
      rw [add_of_add] at h0 h1 h2 h3
      have hb := block_lt_of_cell h0
      rw [block_of_add] at hb
      exact ⟨⟨i0, i1, i2, i3⟩, hb, h0, h1, h2, h3, i64_wfI w0, i64_wfI w1, i64_wfI w2, i64_wfI w3⟩
    obtain ⟨os, h1, h2⟩ := list_ofI len hel
    exact ⟨some a, len, m, os, rfl, h1, hmx, fun k hk => ⟨a, rfl, h2 k hk⟩⟩
end Go.Proofs.YtpkhcncempoohaaGreatDoor
