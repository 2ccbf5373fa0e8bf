/- Tables in memory; walks: sums.total. -/
import Derived.Test.YtehgeiaglddabaaSm3
import Derived.Test.YtehgeiaglddabaaIp
set_option linter.unusedVariables false
namespace Go.Proofs.Ytehgeiaglddabaa
open Go.RowKit Zp

/-- a product of k -/
def prodT {p : Nat} [NeZero p] (k : Nat) (f : Nat → Fin p) : Fin p := match k with
  | 0 => 1
  | k + 1 => prodT k f * f k
theorem prodT_succ {p : Nat} [NeZero p] (k : Nat) (f : Nat → Fin p) : prodT (k + 1) f = prodT k f * f k := rfl
theorem prodT_congr {p : Nat} [NeZero p] {k : Nat} {f g : Nat → Fin p} (h : ∀ i, i < k → f i = g i) : prodT k f = prodT k g := by
  induction k with
  | zero => rfl
  | succ k ih => rw [prodT_succ, prodT_succ, ih (fun i hi => h i (by omega)), h k (by omega)]
/-- table number j of several -/
def tabOf (p : Nat) [NeZero p] (ts : List (List Int)) (j : Nat) : List (Fin p) := els p (ts.getD j [])
/-- the sum of the products of the tables -/
def totP {p : Nat} [NeZero p] (d n : Nat) (T : Nat → List (Fin p)) : Fin p := sumT n fun i => prodT d fun j => co (T j) i

/-- several tables in memory -/
def TB (w : World) (A0 : Option Addr) (ts : List (List Int)) : Prop :=
  ∀ k (hk : k < ts.length), ∃ ad A n c, A0 = some ad ∧ (ad.add k).block < w.heap.size ∧ w.cell? (ad.add k) = some (.slice A n c) ∧ ts[k].length = n ∧ n < 9223372036854775808 ∧ SL w A ts[k] ∧ ∀ x ∈ ts[k], I64 x
theorem TB.below {w w' : World} {A0 : Option Addr} {ts : List (List Int)} (h : TB w A0 ts) (hb : Below w.heap.size w w') : TB w' A0 ts := fun k hk => by
  obtain ⟨ad, A, n, c, h1, h2, h3, h4, h5, h6, h7⟩ := h k hk
  exact ⟨ad, A, n, c, h1, Nat.lt_of_lt_of_le h2 hb.size, (hb.cell h2).trans h3, h4, h5, h6.below hb, h7⟩
theorem TB.drewN {w : World} {A0 : Option Addr} {ts : List (List Int)} (h : TB w A0 ts) (m : Nat) : TB (w.drewN m) A0 ts := h

set_option maxRecDepth 100000 in
set_option maxHeartbeats 1000000 in
theorem total_any (p b : Nat) [NeZero p] (hp1 : 2 ≤ p) (hp2 : p ≤ 2147483647) (A : Option Addr) (d cap : Nat) (ts : List (List Int)) (hd : ts.length = d) (hd1 : 1 ≤ d) (hd2 : d ≤ 4) (n : Nat) (hn : ∀ t ∈ ts, t.length = n) (w : World) (hcb : w.cell? ⟨b, 0, none⟩ = some (vi p)) (hs : TB w A ts) :
    Calls Try.prog 62 #[.pointer (some ⟨b, 0, none⟩), .slice A d cap] w fun e w' => e = .returned (vi (fv (totP d n (tabOf p ts)))) ∧ ∃ k, w' = w.drewN k := by
  have HD := Lib.hid hd
  obtain ⟨a0, A0, n0, c0, rfl, z1, hc0, hl0, hb0, z2, z3⟩ := hs 0 (by omega)
  have e0 : n0 = n := by rw [← hl0]; exact hn _ (List.getElem_mem _)
  subst e0
  have hc00 : w.cell? a0 = some (.slice A0 n0 c0) := by
    have e : a0.add 0 = a0 := by cases a0; simp [Addr.add]
    rw [← e]; exact hc0
  have e0 : (0 : Int) ≤ (d : Int) := by omega
  have e1 : (0 : Int) < (d : Int) := by omega
  clear z1 z2 z3 hl0 hc0 hd
  go_enter Try.func62, Try.ntmps62
  go_wp2
  go_loopw [5, 14] (fun v i wr => ∃ k m : Nat, k ≤ n0 ∧ i = vi k ∧ v = vi (fv (sumT k fun i => prodT d fun j => co (tabOf p ts j) i)) ∧ wr = w.drewN m) (fun _ i _ => n0 - (intOf i).toNat)
  case atStart => exact ⟨0, 0, Nat.zero_le _, rfl, by rw [sumT, fv_zero], rfl⟩
  case round =>
    obtain ⟨k, m, hk, rfl, rfl, rfl⟩ := hrel
    by_cases hkn : k < n0
    · obtain ⟨s, hsx⟩ : ∃ s, s = (sumT k fun i => prodT d fun j => co (tabOf p ts j) i) := ⟨_, rfl⟩
      have HSX := Lib.hid hsx
      rw [← hsx]
      clear hsx
      go_wp2
      go_loopw [7, 19] (fun v i wr => ∃ (j m : Nat) (x : Int), j ≤ d ∧ i = vi j ∧ v = vi x ∧ I64 x ∧ el p x = (prodT j fun j => co (tabOf p ts j) k) ∧ wr = w.drewN m) (fun _ i _ => d - (intOf i).toNat)
      case atStart => exact ⟨0, m, 1, Nat.zero_le _, rfl, rfl, by constructor <;> decide, by rw [prodT, el_one], rfl⟩
      case round =>
        obtain ⟨j, m, x, hj, rfl, rfl, hxI, hx, rfl⟩ := hrel
        have HX := Lib.hid hx
        clear hx
        by_cases hjd : j < d
        · have hjt : j < ts.length := by rw [HD.out]; exact hjd
          obtain ⟨ad, A1, n1, c1, he, _, hc1, hl1, _, hs1, hi1⟩ := hs j hjt
          injection he with he
          subst he
          have e1 : n1 = n0 := by rw [← hl1]; exact hn _ (List.getElem_mem _)
          subst e1
          have hkx : k < ts[j].length := by rw [hl1]; exact hkn
          obtain ⟨a1, rfl, _, hc2⟩ := hs1.at_ hkx
          have iy := hi1 _ (List.getElem_mem hkx)
          have hy : co (tabOf p ts j) k = el p ts[j][k] := by
            rw [tabOf, co_els, List.getD_eq_getElem?_getD, List.getD_eq_getElem?_getD, List.getElem?_eq_getElem hjt, Option.getD_some, List.getElem?_eq_getElem hkx, Option.getD_some]
          obtain ⟨y, hyy⟩ : ∃ y, y = ts[j][k] := ⟨_, rfl⟩
          rw [← hyy] at hc2 iy hy
          have HY := Lib.hid hy
          have hcR : (w.drewN m).cell? ⟨b, 0, none⟩ = some (vi p) := hcb
          have hc1' : (w.drewN m).cell? (a0.add j) = some (.slice (some a1) n1 c1) := hc1
          have hc2' : (w.drewN m).cell? (a1.add k) = some (vi y) := hc2
          clear hy hyy hl1
          go_wp2_with fail
          refine (mul_any p hp2 b x y hxI iy _ hcR).mono ?_
          rintro e w' ⟨rfl, m2, rfl⟩
          go_wp2
          go_roundw
          case rel => exact ⟨j + 1, m + m2, _, by omega, by go_num, rfl, i64_fv _ hp2, by rw [el_fv, HX.out, prodT_succ, HY.out], rfl⟩
          case measure => simp [intOf]; omega
        · obtain rfl : j = d := by omega
          have hcR : (w.drewN m).cell? ⟨b, 0, none⟩ = some (vi p) := hcb
          go_wp2_with fail
          refine (add_any p hp2 b (fv s) x (i64_fv _ hp2) hxI _ hcR).mono ?_
          rintro e w' ⟨rfl, m2, rfl⟩
          go_wp2
          go_roundw
          case rel => exact ⟨k + 1, m + m2, by omega, by go_num, by rw [el_fv, HX.out, HSX.out, sumT_succ], rfl⟩
          case measure => simp [intOf]; omega
    · obtain rfl : k = n0 := by omega
      go_wp2
      go_ret
      exact ⟨rfl, _, rfl⟩
end Go.Proofs.Ytehgeiaglddabaa
