/- ref3: Power, Constant, Mix, Permute. -/
import Derived.Test.YtlcmacdeadmloaaDoorPe
import Derived.Test.YtlcmacdeadmloaaDoorRb
import Derived.Test.YtlcmacdeadmloaaDoorRa
set_option linter.unusedVariables false
namespace Go.Proofs.YtlcmacdeadmloaaDoor
open Go.RowKit Zp

/-- no divisor from 2 to i - 1 in common -/
def NoCom (n m i : Nat) : Prop := ∀ j, 2 ≤ j → j < i → ¬ (j ∣ n ∧ j ∣ m)
theorem NoCom.step {n m i : Nat} (h : NoCom n m i) (hi : ¬ (i ∣ n ∧ i ∣ m)) : NoCom n m (i + 1) := fun j h2 hj => by
  by_cases e : j = i
  · subst e; exact hi
  · exact h j h2 (by omega)
theorem NoCom.gcd {n m : Nat} (hn : 0 < n) (h : NoCom n m (n + 1)) : Nat.gcd n m = 1 := by
  have h1 := Nat.gcd_dvd_left n m
  have h2 := Nat.gcd_dvd_right n m
  have h3 := Nat.le_of_dvd hn h1
  have h4 := Nat.gcd_pos_of_pos_left m hn
  false_or_by_contra
  rename_i hne
  exact h _ (by omega) (by omega) ⟨h1, h2⟩
theorem com_gcd {n m i : Nat} (h2 : 2 ≤ i) (h : i ∣ n ∧ i ∣ m) : Nat.gcd n m ≠ 1 := fun e => by
  have := Nat.dvd_gcd h.1 h.2
  rw [e] at this
  have := Nat.le_of_dvd (by omega) this
  omega
def comB (n m : Nat) : Bool := decide (Nat.gcd n m ≠ 1)
set_option maxHeartbeats 2000000 in
theorem rcommon_any (n m : Nat) (hn : 0 < n) (hn2 : n ≤ 2147483647) (hm2 : m ≤ 2147483647) (w : World) :
    Calls Tryd.prog 41 #[vi n, vi m] w fun e w' => e = .returned (.bool (comB n m)) ∧ w = w' := by
  go_enter Tryd.func41, Tryd.ntmps41
  go_wp2
  go_loop [5] (fun t => ∃ i : Nat, 2 ≤ i ∧ (i ≤ n + 1 ∨ i = 2) ∧ t = vi i ∧ NoCom n m i) (fun t => n + 2 - (intOf t).toNat)
  case atStart => exact ⟨2, by omega, .inr rfl, rfl, fun j h1 h2 => by omega⟩
  case round =>
    obtain ⟨i, h2, hi, rfl, hno⟩ := hrel
    have HN := Lib.hid hno
    clear hno
    have i0 : (i : Int) ≠ 0 := by omega
    have i3 : (i : Int) ≤ 2147483648 := by omega
    have en : (n : Int).tmod (i : Int) = ((n % i : Nat) : Int) := by rw [Int.tmod_eq_emod_of_nonneg (by omega)]; omega
    have em : (m : Int).tmod (i : Int) = ((m % i : Nat) : Int) := by rw [Int.tmod_eq_emod_of_nonneg (by omega)]; omega
    by_cases hle : i ≤ n
    · have t1 : (i : Int) ≤ (n : Int) := by omega
      by_cases h1 : i ∣ n
      · have e1 : (((n % i : Nat) : Int) == 0) = true := by rw [Nat.mod_eq_zero_of_dvd h1]; rfl
        by_cases h3 : i ∣ m
        · have e2 : (((m % i : Nat) : Int) == 0) = true := by rw [Nat.mod_eq_zero_of_dvd h3]; rfl
          have hr : comB n m = true := decide_eq_true (com_gcd h2 ⟨h1, h3⟩)
          have HR := Lib.hid hr
          generalize ((n % i : Nat) : Int) = a at en e1
          generalize ((m % i : Nat) : Int) = b at em e2
          clear hr h1 h3 hi
          go_wp2
          go_ret
          exact ⟨ret_bool HR.out.symm, rfl⟩
        · have e2 : (((m % i : Nat) : Int) == 0) = false := by
            rw [beq_eq_false_iff_ne]
            intro e
            exact h3 (Nat.dvd_of_mod_eq_zero (by omega))
          have hs := HN.out.step (fun h => h3 h.2)
          have HS := Lib.hid hs
          generalize ((n % i : Nat) : Int) = a at en e1
          generalize ((m % i : Nat) : Int) = b at em e2
          clear hs h1 h3 hi HN
          go_wp2
          go_round
          case rel => exact ⟨i + 1, by omega, by omega, by go_num, HS.out⟩
          case measure => simp [intOf]; omega
      · have e1 : (((n % i : Nat) : Int) == 0) = false := by
          rw [beq_eq_false_iff_ne]
          intro e
          exact h1 (Nat.dvd_of_mod_eq_zero (by omega))
        have hs := HN.out.step (fun h => h1 h.1)
        have HS := Lib.hid hs
        generalize ((n % i : Nat) : Int) = a at en e1
        clear hs h1 hi HN em
        go_wp2
        go_round
        case rel => exact ⟨i + 1, by omega, by omega, by go_num, HS.out⟩
        case measure => simp [intOf]; omega
    · have t1 : ¬ (i : Int) ≤ (n : Int) := by omega
      have hr : comB n m = false := by
        refine decide_eq_false fun hne => hne ?_
        refine NoCom.gcd hn fun j h3 h4 => ?_
        exact HN.out j h3 (by omega)
      have HR := Lib.hid hr
      clear hr en em hle
      go_wp2
      go_ret
      exact ⟨ret_bool HR.out.symm, rfl⟩
set_option maxHeartbeats 2000000 in
theorem rpower_is (p k : Nat) (hp : 3 ≤ p) (hp2 : p ≤ 2147483647) (k2 : 2 ≤ k) (kp : k < p) (least : ∀ j, 2 ≤ j → j < k → Nat.gcd j (p - 1) ≠ 1) (cop : Nat.gcd k (p - 1) = 1) (w : World) :
    Calls Tryd.prog 14 #[vi p] w fun e w' => e = .returned (vi k) ∧ w = w' := by
  have hc := fun (n : Nat) (h1 : 0 < n) (h2 : n ≤ 2147483647) => rcommon_any n (p - 1) h1 h2 (by omega) w
  have ep : ((p - 1 : Nat) : Int) = (p : Int) - 1 := by omega
  rw [ep] at hc
  have HC := Lib.hid hc
  have HL := Lib.hid least
  have HO := Lib.hid cop
  clear hc ep least cop
  go_enter Tryd.func14, Tryd.ntmps14
  go_wp2
  go_loop [3, 4] (fun t _ => ∃ n : Nat, 2 ≤ n ∧ n ≤ k ∧ t = vi n) (fun t _ => k - (intOf t).toNat)
  case atStart => exact ⟨2, by omega, by omega, rfl⟩
  case round =>
    obtain ⟨n, h2, hk, rfl⟩ := hrel
    have t1 : (n : Int) < (p : Int) := by omega
    have HN := Lib.hid (HC.out n (by omega) (by omega))
    by_cases e : n = k
    · have hb : comB n (p - 1) = false := decide_eq_false fun h => h (by rw [e]; exact HO.out)
      rw [hb] at HN
      subst e
      go_wp2_with fail
      refine (HN.out).mono ?_
      rintro _ _ ⟨rfl, rfl⟩
      go_wp2
      go_ret
      exact ⟨rfl, rfl⟩
    · have hb : comB n (p - 1) = true := decide_eq_true (HL.out n h2 (by omega))
      rw [hb] at HN
      go_wp2_with fail
      refine (HN.out).mono ?_
      rintro _ _ ⟨rfl, rfl⟩
      go_wp2
      go_round
      case rel => exact ⟨n + 1, by omega, by omega, by go_num⟩
      case measure => simp [intOf]; omega
set_option maxRecDepth 100000 in
set_option maxHeartbeats 2000000 in
theorem rconst_any (p : Nat) [NeZero p] (hp1 : 2 ≤ p) (hp2 : p ≤ 2147483647) (r i : Int) (hr : I64 r) (hi : I64 i) (w : World) :
    Calls Tryd.prog 16 #[vi p, vi r, vi i] w fun e w' => e = .returned (vi (cstI p r i)) ∧ w = w' := by
  by_cases h : 0 ≤ r ∧ r < 8 ∧ 0 ≤ i ∧ i < 8
  · obtain ⟨r1, r2, i1, i2⟩ := h
    have e1 : cstI p r i = fv (pw (el p (8 * r + i + 1)) 5 + el p 3) := by
      unfold cstI cstT; rw [if_pos ⟨r1, r2, i1, i2⟩]; congr 4; omega
    rw [e1]
    have hpow := rpow_any p hp1 hp2 (8 * r + i + 1) 5 (by constructor <;> omega) (by constructor <;> omega) w
    rw [zpw_five] at hpow
    obtain ⟨T, hT⟩ : ∃ T, T = pw (el p (8 * r + i + 1)) 5 := ⟨_, rfl⟩
    rw [← hT] at hpow ⊢
    have hadd := radd_any p hp2 (fv T) 3 (i64_fv _ hp2) (by constructor <;> omega) w
    rw [el_fv] at hadd
    have HP := Lib.hid hpow
    have HA := Lib.hid hadd
    obtain ⟨hr1, hr2⟩ := hr
    obtain ⟨hi1, hi2⟩ := hi
    clear hpow hadd hT e1
    go_enter Tryd.func16, Tryd.ntmps16
    go_wp2_with (refine (HP.out).mono ?_; rintro _ _ ⟨rfl, rfl⟩; clear HP)
    go_wp2_with (refine (HA.out).mono ?_; rintro _ _ ⟨rfl, rfl⟩; clear HA)
    go_ret
    exact ⟨rfl, rfl⟩
  · have e1 : cstI p r i = 0 := by unfold cstI; rw [if_neg h]
    rw [e1]
    obtain ⟨hr1, hr2⟩ := hr
    obtain ⟨hi1, hi2⟩ := hi
    rcases (show r < 0 ∨ (0 ≤ r ∧ 8 ≤ r) ∨ (0 ≤ r ∧ r < 8 ∧ i < 0) ∨ (0 ≤ r ∧ r < 8 ∧ 0 ≤ i ∧ 8 ≤ i) by omega) with h1 | ⟨h1, h2⟩ | ⟨h1, h2, h3⟩ | ⟨h1, h2, h3, h4⟩
    all_goals
      clear h e1
      go_enter Tryd.func16, Tryd.ntmps16
      go_wp2
      go_ret
      exact ⟨rfl, rfl⟩
def RMixRel {p : Nat} [NeZero p] (x : Nat → Int) (w : World) (v t : Value) (wr : World) : Prop :=
  ∃ i : Nat, i ≤ 8 ∧ t = vi i ∧ Own wr w.heap.size v ((List.range i).map fun i => fv (ap (cauchy p) (fun j => el p (x j)) i)) ∧ Below w.heap.size w wr
set_option maxRecDepth 100000 in
set_option maxHeartbeats 2000000 in
theorem rmix_any (p : Nat) [NeZero p] (hp1 : 2 ≤ p) (hp2 : p ≤ 2147483647) (ad : Addr) (n c : Nat) (h8 : 8 ≤ n) (hn : n ≤ 9223372036854775807) (x : Nat → Int) (hx : ∀ i, I64 (x i)) (w : World) (hl : ad.block < w.heap.size) (hs : ∀ i, i < 8 → w.cell? (ad.add i) = some (vi (x i))) :
    Calls Tryd.prog 25 #[vi p, .slice (some ad) n c] w fun e w' => Made ((List.range 8).map fun i => fv (ap (cauchy p) (fun j => el p (x j)) i)) w e w' := by
  have HS := Lib.hid hs
  clear hs
  go_enter Tryd.func25, Tryd.ntmps25
  go_wp2
  go_loopw [5, 6, 7, 8, 9] (fun v t _ _ _ wr => RMixRel (p := p) x w v t wr) (fun _ t _ _ _ _ => 8 - (intOf t).toNat)
  case atStart => exact ⟨0, by omega, rfl, World.ownsRow_nil _ _ _ _, Below.refl _ _⟩
  case round =>
    obtain ⟨i, hi, rfl, hown, hb⟩ := hrel
    by_cases hi8 : i < 8
    · have i1 : (0 : Int) ≤ (i : Int) := by omega
      have i2 : (i : Int) < 8 := by omega
      have HOW := Lib.hid hown
      have HB := Lib.hid hb
      have hsr : ∀ j, j < 8 → wr.cell? (ad.add j) = some (vi (x j)) := fun j hj => (hb.cell (p := ad.add j) (by unfold Addr.add; split <;> exact hl)).trans (HS.out j hj)
      have HSR := Lib.hid hsr
      clear hown hb hsr
      go_wp2
      go_loop [7, 8, 9] (fun s t _ => ∃ j : Nat, j ≤ 8 ∧ t = vi j ∧ s = vi (fv (sumT j fun l => cauchy p i l * el p (x l)))) (fun _ t _ => 8 - (intOf t).toNat)
      case atStart => exact ⟨0, by omega, rfl, by rw [sumT, fv_zero]⟩
      case round =>
        obtain ⟨j, hj, rfl, rfl⟩ := hrel
        by_cases hj8 : j < 8
        · have j1 : (0 : Int) ≤ (j : Int) := by omega
          have j2 : (j : Int) < (n : Int) := by omega
          have j3 : (j : Int) < 8 := by omega
          have hc := HSR.out j hj8
          have hxj := hx j
          have hd := rdiv_any p hp1 hp2 (x j) ((i : Int) + j + 8) hxj ⟨by omega, by omega⟩ wr
          have ec : Zp.inv (el p ((i : Int) + j + 8)) = cauchy p i j := by unfold cauchy; congr 2
          rw [ec] at hd
          have hs := sumT_succ (p := p) j (fun l => cauchy p i l * el p (x l))
          obtain ⟨D, hD⟩ : ∃ D, D = el p (x j) * cauchy p i j := ⟨_, rfl⟩
          rw [← hD] at hd
          have e2 : cauchy p i j * el p (x j) = D := by rw [hD]; grind
          rw [e2] at hs
          obtain ⟨A, hA⟩ : ∃ A, A = sumT j fun l => cauchy p i l * el p (x l) := ⟨_, rfl⟩
          rw [← hA] at hs ⊢
          have a1 := fv_nonneg A
          have a2 := fv_lt A
          have d1 := fv_nonneg D
          have d2 := fv_lt D
          have em : (fv A + fv D).tmod (p : Int) = fv (A + D) := by
            rw [fv_add]
            exact Int.tmod_eq_emod_of_nonneg (by omega)
          have p0 : (p : Int) ≠ 0 := by omega
          have HD := Lib.hid hd
          have HH := Lib.hid hs
          clear hd hs hD e2 hA ec hxj
          go_wp2_with fail
          refine (HD.out).mono ?_
          rintro _ _ ⟨rfl, rfl⟩
          go_wp2
          go_round
          case rel => exact ⟨j + 1, by omega, by go_num, by rw [HH.out]⟩
          case measure => simp [intOf]; omega
        · have ej : j = 8 := by omega
          subst ej
          have er : (List.range (i + 1)).map (fun i => fv (ap (cauchy p) (fun j => el p (x j)) i)) = ((List.range i).map fun i => fv (ap (cauchy p) (fun j => el p (x j)) i)) ++ [fv (sumT 8 fun l => cauchy p i l * el p (x l))] := by
            rw [List.range_succ, List.map_append]; rfl
          have HE := Lib.hid er
          generalize fv (sumT 8 fun l => cauchy p i l * el p (x l)) = V at HE
          have hlk : ((List.range i).map fun i => fv (ap (cauchy p) (fun j => el p (x j)) i)).length < 17592186044416 := by simp; omega
          have HLK := Lib.hid hlk
          clear er hlk
          go_wp2_with (at_builtin; refine wpList_app1 wr V rfl _ _ rfl w.heap.size _ _ rfl rfl HOW.out HLK.out HB.out.size ?_; intro v' w1 hg)
          have ho := hg.own
          have hb := hg.below HB.out HOW.out (Nat.le_refl _) HB.out.size
          rw [← HE.out] at ho
          clear hg
          exact ⟨⟨i + 1, by omega, by go_num, ho, hb⟩, by simp [intOf]; omega⟩
    · have ei : i = 8 := by omega
      subst ei
      go_wp2
      go_ret
      exact ⟨_, rfl, hown, hb⟩
theorem set_map8 (f : Nat → Int) {i : Nat} (hi : i < 8) (y : Int) : ((List.range 8).map f).set i y = (List.range 8).map (upd f i y) := by
  apply List.ext_getElem?
  intro j
  rw [List.getElem?_set]
  by_cases hj : j < 8
  · by_cases e : i = j
    · subst e; simp [hi, upd]
    · rw [if_neg e]; simp [hj, upd]; intro h; exact absurd h.symm e
  · rw [if_neg (by omega)]
    rw [List.getElem?_eq_none (by simp; omega), List.getElem?_eq_none (by simp; omega)]
/-- a state on its way, i places of a round are over -/
def midR {p : Nat} [NeZero p] (k : Nat) (v : Nat → Fin p) (r i j : Nat) : Int := if j < i then fv (pw (permT k v r j + cstT p r j) k) else fv (permT k v r j)
theorem midR_step {p : Nat} [NeZero p] (k : Nat) (v : Nat → Fin p) (r : Nat) {i : Nat} (hi : i < 8) : ((List.range 8).map (midR k v r i)).set i (fv (pw (permT k v r i + cstT p r i) k)) = (List.range 8).map (midR k v r (i + 1)) := by
  rw [set_map8 _ hi]
  congr 1
  funext j
  unfold upd midR
  by_cases h : j = i
  · subst h; rw [if_pos rfl, if_pos (by omega)]
  · rw [if_neg h]
    by_cases h1 : j < i
    · rw [if_pos h1, if_pos (by omega)]
    · rw [if_neg h1, if_neg (by omega)]
theorem midR_done {p : Nat} [NeZero p] (k : Nat) (v : Nat → Fin p) (r : Nat) : ((List.range 8).map fun a => fv (ap (cauchy p) (fun j => el p (((List.range 8).map (midR k v r 8)).getD j 0)) a)) = (List.range 8).map fun j => fv (permT k v (r + 1) j) := by
  apply List.map_congr_left
  intro a _
  show fv (ap (cauchy p) _ a) = fv (ap (cauchy p) _ a)
  congr 1
  refine ap_congr (fun _ _ => rfl) fun j hj => ?_
  rw [getD_map8 _ hj]
  unfold midR
  rw [if_pos hj, el_fv]
theorem i64_midR {p : Nat} [NeZero p] (hm : p ≤ 2147483647) (k : Nat) (v : Nat → Fin p) (r i j : Nat) : I64 (midR k v r i j) := by
  unfold midR
  split <;> exact i64_fv _ hm
def RPermRel {p : Nat} [NeZero p] (k : Nat) (u : Nat → Fin p) (w : World) (v t : Value) (wr : World) : Prop :=
  ∃ r : Nat, r ≤ 8 ∧ t = vi r ∧ Own wr w.heap.size v ((List.range 8).map fun j => fv (permT k u r j)) ∧ Below w.heap.size w wr
def RPermIn {p : Nat} [NeZero p] (k : Nat) (u : Nat → Fin p) (w : World) (r : Nat) (v t : Value) (wr : World) : Prop :=
  ∃ i : Nat, i ≤ 8 ∧ t = vi i ∧ Own wr w.heap.size v ((List.range 8).map (midR k u r i)) ∧ Below w.heap.size w wr
set_option maxRecDepth 100000 in
set_option maxHeartbeats 4000000 in
theorem rpermute_any (p k : Nat) [NeZero p] (hp1 : 3 ≤ p) (hp2 : p ≤ 2147483647) (k2 : 2 ≤ k) (kp : k < p) (least : ∀ j, 2 ≤ j → j < k → Nat.gcd j (p - 1) ≠ 1) (cop : Nat.gcd k (p - 1) = 1) (A : Option Addr) (c : Nat) (xs : List Int) (hx8 : xs.length = 8) (hxI : ∀ x ∈ xs, I64 x) (w : World) (hs : SL w A xs) :
    Calls Tryd.prog 24 #[vi p, .slice A 8 c] w fun e w' => Made ((List.range 8).map fun i => fv (permT (p := p) k (fun j => el p (xs.getD j 0)) 8 i)) w e w' := by
  have hall := rall_any p hp2 A c xs hxI (by omega) w hs
  rw [hx8] at hall
  obtain ⟨u, hu⟩ : ∃ u : Nat → Fin p, u = fun j => el p (xs.getD j 0) := ⟨_, rfl⟩
  rw [← all8 hx8 (R := u) (fun j _ => by rw [hu])] at hall
  rw [← hu]
  have HA := Lib.hid hall
  have HPW := Lib.hid (fun W => rpower_is p k hp1 hp2 k2 kp least cop W)
  have hpp : 2 ≤ p := by omega
  clear hall hu hs hxI hx8 least cop
  go_enter Tryd.func24, Tryd.ntmps24
  go_wp2_with fail
  refine (HA.out).mono ?_
  rintro _ w1 ⟨v, rfl, ho1, hb1⟩
  go_wp2_with fail
  refine (HPW.out _).mono ?_
  rintro _ _ ⟨rfl, rfl⟩
  go_wp2
  go_loopw [5, 7, 8, 9] (fun v t _ _ wr => RPermRel k u w v t wr) (fun _ t _ _ _ => 8 - (intOf t).toNat)
  case atStart => exact ⟨0, by omega, rfl, ho1, hb1⟩
  case round =>
    clear ho1 hb1
    obtain ⟨r, hr, rfl, ho, hb⟩ := hrel
    by_cases hr8 : r < 8
    · have r1 : (0 : Int) ≤ (r : Int) := by omega
      have r2 : (r : Int) < 8 := by omega
      have e0 : ((List.range 8).map fun j => fv (permT k u r j)) = (List.range 8).map (midR k u r 0) := by
        apply List.map_congr_left; intro j _; unfold midR; rw [if_neg (by omega)]
      rw [e0] at ho
      clear e0
      obtain ⟨g, cap, ev, hg1, hg2⟩ := ho.block (by simp)
      rw [show ((List.range 8).map (midR k u r 0)).length = 8 by simp] at ev
      subst ev
      go_wp2
      go_loopw [8, 9] (fun t _ wr => RPermIn k u w r (.slice (some ⟨g, 0, none⟩) 8 cap) t wr) (fun t _ _ => 8 - (intOf t).toNat)
      case atStart => exact ⟨0, by omega, rfl, ho, hb⟩
      case round =>
        clear ho hb hg2
        obtain ⟨i, hi, rfl, ho, hb⟩ := hrel
        by_cases hi8 : i < 8
        · have i1 : (0 : Int) ≤ (i : Int) := by omega
          have i2 : (i : Int) < 8 := by omega
          have hst := midR_step k u r hi8
          have hlen8 : 8 = ((List.range 8).map (midR k u r i)).length := by simp
          have hcX := ho.at_ hlen8 i (by simpa using hi8)
          have hfX := ho.frozen_ hlen8 i
          have hsto := fun y => ho.store hlen8 i y
          rw [show ((List.range 8).map (midR k u r i))[i]'(by simpa using hi8) = fv (permT k u r i) by simp [midR]] at hcX
          have hcst := rconst_any p hpp hp2 r i ⟨by omega, by omega⟩ ⟨by omega, by omega⟩ wr
          rw [cstI_in p hr8 hi8] at hcst
          obtain ⟨V, hV⟩ : ∃ V, V = permT k u r i := ⟨_, rfl⟩
          rw [← hV] at hst hcX
          obtain ⟨C, hC⟩ : ∃ C, C = cstT p r i := ⟨_, rfl⟩
          rw [← hC] at hst hcst
          have v1 := fv_nonneg V
          have v2 := fv_lt V
          have c1 := fv_nonneg C
          have c2 := fv_lt C
          have hpow := rpow_any p hpp hp2 (fv V + fv C) k ⟨by omega, by omega⟩ ⟨by omega, by omega⟩ wr
          rw [el_add, el_fv, el_fv, zpw_nat] at hpow
          obtain ⟨T, hT⟩ : ∃ T, T = pw (V + C) k := ⟨_, rfl⟩
          rw [← hT] at hpow hst
          have HC := Lib.hid hcst
          have HP := Lib.hid hpow
          have HST := Lib.hid hst
          have HSTO := Lib.hid hsto
          have HB := Lib.hid hb
          clear hcst hpow hst hsto hV hC hT ho hb hlen8
          go_wp2_with fail
          refine (HC.out).mono ?_
          rintro _ _ ⟨rfl, rfl⟩
          go_wp2_with (refine (HP.out).mono ?_; rintro _ _ ⟨rfl, rfl⟩; clear HP)
          have ho := HSTO.out (fv T)
          rw [HST.out] at ho
          have hb := HB.out.setCell (p := ⟨g, i, none⟩) hg1 (vi (fv T))
          go_roundw
          case rel => exact ⟨i + 1, by omega, by go_num, ho, hb⟩
          case measure => simp [intOf]; omega
        · have ei : i = 8 := by omega
          subst ei
          have hdn := midR_done k u r
          have hgd := i64_getD3 (xs := (List.range 8).map (midR k u r 8)) (by intro y hy; obtain ⟨j, _, rfl⟩ := List.mem_map.1 hy; exact i64_midR hp2 k u r 8 j)
          have hlen8 : 8 = ((List.range 8).map (midR k u r 8)).length := by simp
          obtain ⟨A', n', c', ev, hl', hc', _, hs'⟩ := ho.shapeN
          injection ev with ev1 ev2 ev3
          subst ev1 ev2 ev3
          obtain ⟨ad, ea, hab, hac⟩ := sl8 hs' (by simp)
          injection ea with ea
          subst ea
          have hmx := rmix_any p hpp hp2 ⟨g, 0, none⟩ 8 cap (Nat.le_refl _) (by omega) (fun j => ((List.range 8).map (midR k u r 8)).getD j 0) hgd wr hab hac
          rw [hdn] at hmx
          have HM := Lib.hid hmx
          have HB := Lib.hid hb
          clear hmx hdn hgd hlen8 hs' hac ho hb
          go_wp2_with fail
          refine (HM.out).mono ?_
          rintro _ w5 ⟨v5, rfl, ho5, hb5⟩
          have ho := ho5.more HB.out.size
          have hb := HB.out.trans (hb5.mono HB.out.size)
          go_wp2
          go_roundw
          case rel => exact ⟨r + 1, by omega, by go_num, ho, hb⟩
          case measure => simp [intOf]; omega
    · have er : r = 8 := by omega
      subst er
      go_wp2
      go_ret
      exact ⟨_, rfl, ho, hb⟩
end Go.Proofs.YtlcmacdeadmloaaDoor
