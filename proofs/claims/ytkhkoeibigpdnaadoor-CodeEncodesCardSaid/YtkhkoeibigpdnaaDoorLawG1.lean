/- Walks: the reference's Distance; the law CodeCounts. -/
import Derived.Test.YtkhkoeibigpdnaaDoorSame
import Derived.Test.YtkhkoeibigpdnaaDoorRp
import Derived.Test.YtkhkoeibigpdnaaDoorCode
import Derived.Test.YtkhkoeibigpdnaaDoorArg
set_option linter.unusedVariables false
namespace Go.Proofs.YtkhkoeibigpdnaaDoor
open Go.RowKit Zp

/-- at how many of the first places two lists differ, what is not there too -/
def cntD {p : Nat} [NeZero p] (na nb : Nat) (f g : Nat → Fin p) : Nat → Nat
  | 0 => 0
  | k + 1 => cntD na nb f g k + if na ≤ k ∨ nb ≤ k ∨ f k ≠ g k then 1 else 0
theorem cntD_lo {p : Nat} [NeZero p] (na nb : Nat) (f g : Nat → Fin p) (k : Nat) (hk : k ≤ min na nb) : cntD na nb f g k = diffN k f g := by
  induction k with
  | zero => rfl
  | succ k ih =>
    rw [cntD, ih (by omega), diffN_succ]
    congr 1
    by_cases h : f k = g k
    · rw [if_pos h, if_neg (by rintro (h1 | h1 | h1); omega; omega; exact h1 h)]
    · rw [if_neg h, if_pos (.inr (.inr h))]
theorem cntD_hi {p : Nat} [NeZero p] (na nb : Nat) (f g : Nat → Fin p) (k : Nat) : cntD na nb f g (min na nb + k) = diffN (min na nb) f g + k := by
  induction k with
  | zero => rw [Nat.add_zero, cntD_lo _ _ _ _ _ (Nat.le_refl _)]; rfl
  | succ k ih => rw [← Nat.add_assoc, cntD, ih, if_pos (by omega)]; omega
theorem cntD_le {p : Nat} [NeZero p] (na nb : Nat) (f g : Nat → Fin p) (k : Nat) : cntD na nb f g k ≤ k := by
  induction k with
  | zero => exact Nat.le_refl _
  | succ k ih => rw [cntD]; split <;> omega
theorem cntD_dist {p : Nat} [NeZero p] (xs ys : List Int) : cntD xs.length ys.length (co (els p xs)) (co (els p ys)) (max xs.length ys.length) = distI p xs ys := by
  have e : max xs.length ys.length = min xs.length ys.length + (max xs.length ys.length - min xs.length ys.length) := by omega
  rw [e, cntD_hi, distI]; omega

def CntRel {p : Nat} [NeZero p] (na nb N : Nat) (f g : Nat → Fin p) (n i : Value) : Prop := ∃ k : Nat, k ≤ N ∧ i = vi k ∧ n = vi ((cntD na nb f g k : Nat) : Int)
set_option maxRecDepth 100000 in
set_option maxHeartbeats 2000000 in
theorem rdist_n (p : Nat) [NeZero p] (hp2 : p ≤ 2147483647) (A B : Option Addr) (na ca nb cb : Nat) (xs ys : List Int) (hna : xs.length = na) (hnb : ys.length = nb) (hxs : ∀ n ∈ xs, I64 n) (hys : ∀ n ∈ ys, I64 n) (hrx : na * 8 ≤ 281474976710656) (hry : nb * 8 ≤ 281474976710656) (w : World) (hsx : SL w A xs) (hsy : SL w B ys) :
    Calls Tryd.prog 17 #[vi p, .slice A na ca, .slice B nb cb] w fun e w' => e = .returned (vi (distI p xs ys : Nat)) ∧ w = w' := by
  have hd := cntD_dist (p := p) xs ys
  rw [hna, hnb] at hd
  rw [← hd]
  obtain ⟨N, hN⟩ : ∃ N, N = max na nb := ⟨_, rfl⟩
  rw [← hN]
  have hcase : na ≤ N ∧ nb ≤ N ∧ (N = na ∨ N = nb) := by omega
  obtain ⟨hN1, hN2, hN3⟩ := hcase
  have hN4 : N ≤ 35184372088832 := by omega
  have HN3 := Lib.hid hN3
  have hst := fun k => (show cntD na nb (co (els p xs)) (co (els p ys)) (k + 1) = cntD na nb (co (els p xs)) (co (els p ys)) k + if na ≤ k ∨ nb ≤ k ∨ co (els p xs) k ≠ co (els p ys) k then 1 else 0 from rfl)
  have hco1 := fun k => co_els (p := p) xs k
  have hco2 := fun k => co_els (p := p) ys k
  have hle := fun k => cntD_le na nb (co (els p xs)) (co (els p ys)) k
  generalize hf : co (els p xs) = f at hst hco1 hle
  generalize hg : co (els p ys) = g at hst hco2 hle
  have HST := Lib.hid hst
  have HC1 := Lib.hid hco1
  have HC2 := Lib.hid hco2
  have HLE := Lib.hid hle
  have HNA := Lib.hid hna
  have HNB := Lib.hid hnb
  clear hst hco1 hco2 hle hna hnb hd hN hN3 hf hg
  go_enter Tryd.func17, Tryd.ntmps17
  go_wp2
  go_loop [7, 8, 9, 10] (fun n i _ _ => CntRel na nb N f g n i) (fun _ i _ _ => N - (intOf i).toNat)
  case atStart => exact ⟨0, Nat.zero_le _, rfl, rfl⟩
  case round =>
    obtain ⟨k, hk, rfl, rfl⟩ := hrel
    by_cases hkN : k < N
    · have hatx := fun (W : World) hs => ref_at_n A _ ca xs HNA.out (by omega) k (by constructor <;> omega) W hs
      have haty := fun (W : World) hs => ref_at_n B _ cb ys HNB.out (by omega) k (by constructor <;> omega) W hs
      rw [atI_getD] at hatx haty
      have ix := i64_getD' hxs k
      have iy := i64_getD' hys k
      have hs := HST.out k
      rw [HC1.out k, HC2.out k] at hs
      have hle := HLE.out k
      generalize xs.getD k 0 = x at hatx ix hs
      generalize ys.getD k 0 = y at haty iy hs
      have hofx := fun W => rof_any p hp2 x ix W
      have hofy := fun W => rof_any p hp2 y iy W
      generalize el p x = X at hofx hs
      generalize el p y = Y at hofy hs
      generalize cntD na nb f g k = c at hs hle
      have HATX := Lib.hid hatx
      have HATY := Lib.hid haty
      have HOFX := Lib.hid hofx
      have HOFY := Lib.hid hofy
      clear hatx haty hofx hofy
      by_cases h1 : k < na
      · by_cases h2 : k < nb
        · by_cases hxy : X = Y
          · have t1 : (fv X != fv Y) = false := by rw [hxy]; simp
            rw [if_neg (by rintro (h | h | h); omega; omega; exact h hxy)] at hs
            have HS := Lib.hid hs
            clear hs hxy
            go_wp2_with fail
            refine (HATX.out _ hsx).mono ?_
            rintro e w' ⟨rfl, rfl⟩
            go_wp2_with fail
            refine (HATY.out _ hsy).mono ?_
            rintro e w' ⟨rfl, rfl⟩
            go_wp2_with fail
            refine (HOFX.out _).mono ?_
            rintro e w' ⟨rfl, rfl⟩
            go_wp2_with fail
            refine (HOFY.out _).mono ?_
            rintro e w' ⟨rfl, rfl⟩
            go_wp2
            go_round
            case rel => exact ⟨k + 1, by omega, by go_num, by rw [HS.out]; rfl⟩
            case measure => simp [intOf]; omega
          · have t1 : (fv X != fv Y) = true := by rw [bne_iff_ne]; exact fun h => hxy (fv_inj h)
            rw [if_pos (.inr (.inr hxy))] at hs
            have HS := Lib.hid hs
            clear hs hxy
            go_wp2_with fail
            refine (HATX.out _ hsx).mono ?_
            rintro e w' ⟨rfl, rfl⟩
            go_wp2_with fail
            refine (HATY.out _ hsy).mono ?_
            rintro e w' ⟨rfl, rfl⟩
            go_wp2_with fail
            refine (HOFX.out _).mono ?_
            rintro e w' ⟨rfl, rfl⟩
            go_wp2_with fail
            refine (HOFY.out _).mono ?_
            rintro e w' ⟨rfl, rfl⟩
            go_wp2
            go_round
            case rel => exact ⟨k + 1, by omega, by go_num, by rw [HS.out]; go_num⟩
            case measure => simp [intOf]; omega
        · rw [if_pos (.inr (.inl (by omega)))] at hs
          have HS := Lib.hid hs
          clear hs
          go_wp2_with fail
          refine (HATX.out _ hsx).mono ?_
          rintro e w' ⟨rfl, rfl⟩
          go_wp2_with fail
          refine (HATY.out _ hsy).mono ?_
          rintro e w' ⟨rfl, rfl⟩
          go_wp2_with fail
          refine (HOFX.out _).mono ?_
          rintro e w' ⟨rfl, rfl⟩
          go_wp2_with fail
          refine (HOFY.out _).mono ?_
          rintro e w' ⟨rfl, rfl⟩
          go_wp2
          go_round
          case rel => exact ⟨k + 1, by omega, by go_num, by rw [HS.out]; go_num⟩
          case measure => simp [intOf]; omega
      · have h2 : k < nb := by have := HN3.out; omega
        rw [if_pos (.inl (by omega))] at hs
        have HS := Lib.hid hs
        clear hs
        go_wp2_with fail
        refine (HATX.out _ hsx).mono ?_
        rintro e w' ⟨rfl, rfl⟩
        go_wp2_with fail
        refine (HATY.out _ hsy).mono ?_
        rintro e w' ⟨rfl, rfl⟩
        go_wp2_with fail
        refine (HOFX.out _).mono ?_
        rintro e w' ⟨rfl, rfl⟩
        go_wp2_with fail
        refine (HOFY.out _).mono ?_
        rintro e w' ⟨rfl, rfl⟩
        go_wp2
        go_round
        case rel => exact ⟨k + 1, by omega, by go_num, by rw [HS.out]; go_num⟩
        case measure => simp [intOf]; omega
    · obtain rfl : k = N := by omega
      have h1 : ¬ k < na := by omega
      have h2 : ¬ k < nb := by omega
      go_wp2
      go_ret
      exact ⟨rfl, rfl⟩

set_option maxHeartbeats 1000000 in
theorem counts_walk (w : World) (p : Int) (hp : I64 p) (A : Option Addr) (na ca : Nat) (xs : List Int) (ha : ArgS w A na ca xs) (B : Option Addr) (nb cb : Nat) (ys : List Int) (hb : ArgS w B nb cb ys) (hT : Typed w) :
    Calls Tryd.prog 3 #[vi p, .slice A na ca, .slice B nb cb] w fun e w' => SaysW (.bool true) w e w' := by
  have hra := ha.r8
  have hrb := hb.r8
  rw [ha.len] at hra
  rw [hb.len] at hrb
  have HLA := Lib.hid ha.len
  have HLB := Lib.hid hb.len
  by_cases hF : HasField p
  · obtain ⟨h3, hm, hpr⟩ := hF
    obtain ⟨q, rfl⟩ := Int.eq_ofNat_of_zero_le (a := p) (by omega)
    rw [Int.toNat_natCast] at hpr
    haveI := hpr.ne
    have hqm : q ≤ 2147483647 := by omega
    have HF := Lib.hid (sfield_yes q (by omega) hqm hpr w hT)
    have h1 := fun b w hc hsx hsy => distance_any q hqm b A B na ca nb cb xs ys HLA.out HLB.out ha.i64 hb.i64 (by omega) (by omega) w hc hsx hsy
    have h2 := fun w hsx hsy => rdist_n q hqm A B na ca nb cb xs ys HLA.out HLB.out ha.i64 hb.i64 (by omega) (by omega) w hsx hsy
    generalize distI q xs ys = D at h1 h2
    have H1 := Lib.hid h1
    have H2 := Lib.hid h2
    clear hpr h1 h2
    go_enter Tryd.func3, Tryd.ntmps3
    go_wp2_with fail
    refine (HF.out).mono ?_
    rintro e w1 ⟨b, rfl, F, hb1⟩
    have sa := ha.sl.below hb1
    have sb := hb.sl.below hb1
    go_wp2_with fail
    refine (H1.out b _ F.c0 sa sb).mono ?_
    rintro e w' ⟨rfl, k1, rfl⟩
    go_wp2_with fail
    refine (H2.out _ (by exact sa) (by exact sb)).mono ?_
    rintro e w' ⟨rfl, rfl⟩
    go_wp2
    go_ret
    exact ⟨rfl, below_drewN hb1 _⟩
  · have HN := Lib.hid (sfield_no p hp hF w hT)
    clear hF
    go_enter Tryd.func3, Tryd.ntmps3
    go_wp2_with fail
    refine (HN.out).mono ?_
    rintro e w1 ⟨rfl, hb1⟩
    go_wp2
    go_ret
    exact ⟨rfl, hb1⟩
end Go.Proofs.YtkhkoeibigpdnaaDoor
