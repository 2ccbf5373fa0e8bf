/- Walks of the field's methods: Inv, Div, Pow, P, Generator; prime, primes. -/
import Derived.Test.YtiohededmcfhjaaDoorFw1
import Derived.Test.YtiohededmcfhjaaDoorApp
set_option linter.unusedVariables false
namespace Go.Proofs.YtiohededmcfhjaaDoor
open Go.RowKit Zp

theorem i64_fv {p : Nat} (x : Fin p) (hp2 : p ≤ 2147483647) : I64 (fv x) := by
  have h1 := fv_nonneg x
  have h2 := fv_lt x
  constructor <;> omega

/-- a product of equal factors, of the inverse below 0 -/
def zpw {p : Nat} [NeZero p] (a : Fin p) (n : Int) : Fin p := if 0 ≤ n then pw a n.toNat else pw (Zp.inv a) (-n).toNat

theorem drewN_ex {P : Program} {f : FuncId} {args : Array Value} {w : World} {v : Value} {a : Nat}
    (h : Calls P f args (w.drewN a) fun e w' => e = .returned v ∧ ∃ k, w' = (w.drewN a).drewN k) :
    Calls P f args (w.drewN a) fun e w' => e = .returned v ∧ ∃ k, w' = w.drewN k :=
  h.mono fun _ _ ⟨he, m, hm⟩ => ⟨he, a + m, by rw [hm, World.drewN_drewN]⟩

set_option maxHeartbeats 400000 in
theorem inv_any (p : Nat) [NeZero p] (hp1 : 2 ≤ p) (hp2 : p ≤ 2147483647) (b : Nat) (m : Int) (hm : I64 m) (w : World) (hc : w.cell? ⟨b, 0, none⟩ = some (vi p)) :
    Calls Tryd.prog 24 #[.pointer (some ⟨b, 0, none⟩), vi m] w fun e w' => e = .returned (vi (fv (Zp.inv (el p m)))) ∧ w = w' := by
  have h5 : I64 ((p : Int) - 2) := by constructor <;> omega
  have h6 : (0 : Int) ≤ (p : Int) - 2 := by omega
  have h7 : ((p : Int) - 2).toNat = p - 2 := by omega
  have H7 := Lib.hid h7
  clear h7
  go_enter Tryd.func24, Tryd.ntmps24
  go_wp2_with (go_at_call 48; refine (power_any p hp1 hp2 b m _ hm h5 h6 _ hc).mono ?_; rintro e w' ⟨rfl, rfl⟩)
  go_ret
  exact ⟨ret_int (by rw [H7.out]; rfl), rfl⟩

set_option maxHeartbeats 400000 in
theorem div_any (p : Nat) [NeZero p] (hp1 : 2 ≤ p) (hp2 : p ≤ 2147483647) (b : Nat) (m n : Int) (hm : I64 m) (hn : I64 n) (w : World) (hc : w.cell? ⟨b, 0, none⟩ = some (vi p)) :
    Calls Tryd.prog 34 #[.pointer (some ⟨b, 0, none⟩), vi m, vi n] w fun e w' => e = .returned (vi (fv (el p m * Zp.inv (el p n)))) ∧ ∃ k, w' = w.drewN k := by
  have h5 := i64_fv (Zp.inv (el p n)) hp2
  go_enter Tryd.func34, Tryd.ntmps34
  go_wp2_with (first | (go_at_call 24; refine (inv_any p hp1 hp2 b n hn _ hc).mono ?_; rintro e w' ⟨rfl, rfl⟩) | (go_at_call 25; refine (mul_any p hp2 b m _ hm h5 _ (by exact hc)).mono ?_; rintro e w' ⟨rfl, k2, rfl⟩))
  go_ret
  exact ⟨ret_int (by rw [el_fv]), _, rfl⟩


theorem p_any (p : Nat) (b : Nat) (w : World) (hc : w.cell? ⟨b, 0, none⟩ = some (vi p)) :
    Calls Tryd.prog 54 #[.pointer (some ⟨b, 0, none⟩)] w fun e w' => e = .returned (vi p) ∧ w = w' := by
  go_enter Tryd.func54, Tryd.ntmps54
  go_wp2
  go_ret
  exact ⟨rfl, rfl⟩


/-- a Bool behind a name -/
def primeB (p : Nat) : Bool := decide (IsPrime p)
theorem primeB_true {p : Nat} (h : IsPrime p) : primeB p = true := decide_eq_true h
theorem primeB_false {p : Nat} (h : ¬ IsPrime p) : primeB p = false := decide_eq_false h

set_option maxHeartbeats 400000 in
theorem prime_any (p : Nat) (hp1 : 2 ≤ p) (hp2 : p ≤ 2147483647) (w : World) :
    Calls Tryd.prog 44 #[vi p] w fun e w' => e = .returned (.bool (primeB p)) ∧ w = w' := by
  have hp3 : decide ((2 : Int) ≤ (p : Int)) = true := by simp; omega
  have HP := Lib.hid hp3
  clear hp3
  go_enter Tryd.func44, Tryd.ntmps44
  go_wp2
  go_loop [3] (fun d => ∃ k : Nat, 2 ≤ k ∧ k ≤ p ∧ d = vi k ∧ NoDiv p k) (fun d => p - (intOf d).toNat)
  case atStart => exact ⟨2, by omega, hp1, rfl, noDiv_two _⟩
  case round =>
    obtain ⟨k, hk1, hk2, rfl, hno⟩ := hrel
    have ec : (k : Int) * k = ((k * k : Nat) : Int) := by rw [Int.natCast_mul]
    have em : (p : Int) % k = ((p % k : Nat) : Int) := by rw [Int.natCast_emod]
    have h1 : (k : Int) * k ≤ 4611686014132420609 := by
      have : k * k ≤ 2147483647 * 2147483647 := Nat.mul_le_mul (by omega) (by omega)
      rw [ec]; omega
    have h0 : (0 : Int) ≤ (k : Int) * k := by rw [ec]; omega
    have hkk : k ≤ k * k := Nat.le_mul_of_pos_left k (by omega)
    have hk2' : 2 * k ≤ k * k := Nat.mul_le_mul_right k hk1
    have EC := Lib.hid ec
    have EM := Lib.hid em
    have HKK := Lib.hid hkk
    have HKK2 := Lib.hid hk2'
    clear ec em hkk hk2'
    go_wp2
    · have ht : (k : Int) * k ≤ p := by assumption
      have hd : ((p : Int) % k == 0) = true := by assumption
      rw [beq_iff_eq, EM.out] at hd
      rw [EC.out] at ht
      go_ret
      exact ⟨ret_bool (primeB_false (not_prime_of_dvd hk1 (by omega) (Nat.dvd_of_mod_eq_zero (by omega)))).symm, rfl⟩
    · have ht : (k : Int) * k ≤ p := by assumption
      have hd : ((p : Int) % k == 0) = false := by assumption
      rw [beq_eq_false_iff_ne, EM.out] at hd
      rw [EC.out] at ht
      have := HKK.out
      have := HKK2.out
      go_round
      case rel => exact ⟨k + 1, by omega, by omega, by go_num, hno.succ (fun h => hd (by rw [Nat.mod_eq_zero_of_dvd h]; rfl))⟩
      case measure => simp [intOf]; omega
    · have ht : (p : Int) < (k : Int) * k := by assumption
      rw [EC.out] at ht
      go_ret
      exact ⟨ret_bool (by rw [primeB_true (hno.prime hp1 (by omega))]; exact HP.out), rfl⟩

/-- what primes hands back -/
def PrimesOf (n : Nat) (w w' : World) (e : Ending) : Prop := ∃ (v : Value) (fs : List Nat), e = .returned v ∧ Own w' w.heap.size v (fs.map (fun q : Nat => (q : Int))) ∧ Below w.heap.size w w' ∧
      (∀ q ∈ fs, 2 ≤ q) ∧ (∀ q ∈ fs, q ≤ n) ∧ fs.length ≤ 2147483648 ∧ ∀ q, IsPrime q → q ∣ n → q ∈ fs

def PR (N : Nat) (w : World) (n out d : Value) (wr : World) : Prop := ∃ (m k : Nat) (fs : List Nat), n = vi m ∧ d = vi k ∧ Own wr w.heap.size out (fs.map (fun q : Nat => (q : Int))) ∧ Below w.heap.size w wr ∧ Apart N fs m k ∧ 2 ≤ k ∧ k ≤ N + 1 ∧ m ≤ N ∧ fs.length < k

set_option maxHeartbeats 1000000 in
theorem primes_any (N : Nat) (hn1 : 1 ≤ N) (hn2 : N ≤ 2147483647) (w : World) :
    Calls Tryd.prog 45 #[vi N] w fun e w' => PrimesOf N w w' e := by
  go_enter Tryd.func45, Tryd.ntmps45
  go_wp2
  go_loopw [0, 3, 4] (fun n out d wr => PR N w n out d wr) (fun n _ d _ => (intOf n).toNat + 2147483648 - (intOf d).toNat)
  case atStart => exact ⟨N, 2, [], rfl, rfl, World.ownsRow_nil _ _ _ _, Below.refl _ _, Apart.start (by omega), by omega, by omega, by omega, by simp⟩
  case round =>
    obtain ⟨m, k, fs, rfl, rfl, hown, hb, ha, hk1, hk2, hm, hfl⟩ := hrel
    have hm0 := ha.pos
    have hsz := hb.size
    have ec : (k : Int) * k = ((k * k : Nat) : Int) := by rw [Int.natCast_mul]
    have em : (m : Int) % k = ((m % k : Nat) : Int) := by rw [Int.natCast_emod]
    have h1 : (k : Int) * k ≤ 4611686018427387904 := by
      have : k * k ≤ 2147483648 * 2147483648 := Nat.mul_le_mul (by omega) (by omega)
      rw [ec]; omega
    have h0 : (0 : Int) ≤ (k : Int) * k := by rw [ec]; omega
    have hkk : k * k ≤ m → k ≤ m := fun h => Nat.le_trans (Nat.le_mul_of_pos_left k (by omega)) h
    by_cases hlt : k * k ≤ m
    · have hkm := hkk hlt
      by_cases hd : m % k = 0
      · have t1 : (k : Int) * k ≤ m := by rw [ec]; omega
        have t2 : ((m : Int) % k != 0) = false := by rw [em, hd]; rfl
        clear ec em hkk
        have hdv : k ∣ m := Nat.dvd_of_mod_eq_zero hd
        clear hd
        have hs := ha.hit hdv hk1 (by omega)
        clear ha
        have HDV := Lib.hid hdv
        clear hdv hlt
        go_wp2_with (at_builtin; refine wpList_app1 wr k rfl _ _ rfl w.heap.size _ _ rfl rfl hown (by simp; omega) hb.size ?_; intro v' w1 hg)
        have hb1 := hg.below hb hown (Nat.le_refl _) hb.size
        have ho1 := hg.own
        clear hg hown hb t1
        obtain ⟨W1, hW1⟩ : ∃ W : World, W = w1 := ⟨_, rfl⟩
        subst hW1
        go_loop [0] (fun n => ∃ m' : Nat, n = vi m' ∧ Striking N fs m' k ∧ m' ≤ m) (fun n => (intOf n).toNat)
        case atStart => exact ⟨m, rfl, hs, Nat.le_refl _⟩
        case round =>
          obtain ⟨m', rfl, hs', hle⟩ := hrel
          have hm0' := hs'.pos
          have em : (m' : Int) % k = ((m' % k : Nat) : Int) := by rw [Int.natCast_emod]
          have ed : (m' : Int) / k = ((m' / k : Nat) : Int) := by rw [Int.natCast_ediv]
          have hdl : m' / k < m' := Nat.div_lt_self hm0' (by omega)
          by_cases hd' : m' % k = 0
          · have t3 : ((m' : Int) % k == 0) = true := by rw [em, hd']; rfl
            have hs2 := hs'.strike (Nat.dvd_of_mod_eq_zero hd')
            have hq0 : 0 ≤ (m' : Int) / k := by rw [ed]; exact Int.natCast_nonneg _
            have hq1 : (m' : Int) / k ≤ 2147483647 := by rw [ed]; exact Int.ofNat_le.2 (Nat.le_trans (Nat.le_of_lt hdl) (Nat.le_trans hle (Nat.le_trans hm hn2)))
            have ED := Lib.hid ed
            clear em ed hd'
            go_wp2
            go_round
            case rel => exact ⟨m' / k, by rw [ED.out], hs2, by omega⟩
            case measure => rw [ED.out]; simp only [intOf, Int.toNat_natCast]; exact hdl
          · have t3 : ((m' : Int) % k == 0) = false := by rw [em, beq_eq_false_iff_ne]; omega
            have ha2 := hs'.done (fun h => hd' (Nat.mod_eq_zero_of_dvd h))
            clear em ed hd'
            go_wp2
            go_roundw
            case rel => exact ⟨m', k + 1, fs ++ [k], rfl, by go_num, by rw [List.map_append]; exact ho1, hb1, ha2, by omega, by omega, by omega, by simp; omega⟩
            case measure => simp [intOf]; omega
      · have t1 : (k : Int) * k ≤ m := by rw [ec]; omega
        have t2 : ((m : Int) % k != 0) = true := by rw [em, bne_iff_ne]; omega
        clear ec em hkk
        have ha2 := ha.skip (fun h => hd (Nat.mod_eq_zero_of_dvd h))
        clear hd
        go_wp2
        go_roundw
        case rel => exact ⟨m, k + 1, fs, rfl, by go_num, hown, hb, ha2, by omega, by omega, hm, by omega⟩
        case measure => simp [intOf]; omega
    · have t1 : (m : Int) < (k : Int) * k := by rw [ec]; omega
      clear ec em hkk
      by_cases h1m : 1 < m
      · have hl := ha.last (by omega) (by omega) h1m
        clear hlt
        go_wp2_with (at_builtin; refine wpList_app1 wr m rfl _ _ rfl w.heap.size _ _ rfl rfl hown (by simp; omega) hb.size ?_; intro v' w1 hg)
        go_ret
        exact ⟨v', fs ++ [m], rfl, by rw [List.map_append]; exact hg.own, hg.below hb hown (Nat.le_refl _) hb.size, hl.1, hl.2.1, by simp; omega, hl.2.2⟩
      · have hl := ha.none h1m
        clear hlt
        go_wp2
        go_ret
        exact ⟨_, fs, rfl, hown, hb, hl.1, hl.2.1, by omega, hl.2.2⟩
end Go.Proofs.YtiohededmcfhjaaDoor
