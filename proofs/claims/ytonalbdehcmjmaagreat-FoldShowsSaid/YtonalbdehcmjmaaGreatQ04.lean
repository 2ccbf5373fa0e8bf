/- A bundle of texts: Tg, Bs, Bl, Tb, Lt, Cc, Ch, Ts, Vals, Sm1, Fold, Sm2, Code, Sm3, Sm4, Ct, Arg, Rowm, Sm5, Sm6. -/
import Derived.Test.YtonalbdehcmjmaaGreatQ00
import Derived.Test.YtonalbdehcmjmaaGreatQ01
import Derived.IntWalk
import Derived.BigQuiet
import Derived.WalkArith
import Derived.Lib.Walk
import Derived.Deep.LoopGhost
import Derived.Deep.Draws
import Derived.Test.YtonalbdehcmjmaaGreatQ03
import Derived.Test.YtonalbdehcmjmaaGreatQ02
import Derived.Lib.AppendZeros
import Derived.Deep.RegionHeld3
import Derived.Deep.QuietTactic
import Derived.ChangeSlices
/- Walks of package tree: the halves of a group. -/
set_option linter.unusedVariables false
namespace Go.Proofs.YtonalbdehcmjmaaGreat
open Go.RowKit Zp
/-- a group of rows, from a, up to c -/
abbrev Gp (a c : Nat) : Value := .agg #[vi a, vi c]
def IsPw (M : Nat) : Prop := ∃ j : Nat, M = 2 ^ j
theorem IsPw.dbl {M : Nat} (h : IsPw M) : IsPw (2 * M) := by
  obtain ⟨j, rfl⟩ := h
  exact ⟨j + 1, by rw [Nat.pow_succ]; omega⟩
theorem IsPw.pos {M : Nat} (h : IsPw M) : 0 < M := by
  obtain ⟨j, rfl⟩ := h
  exact Nat.pow_pos (by omega)
theorem IsPw.left {M n : Nat} (h : IsPw M) (h1 : M < n) (h2 : n ≤ 2 * M) : M = leftN n := by
  obtain ⟨j, rfl⟩ := h
  exact leftN_of h1 h2
def LeftRel (n : Nat) (v : Value) : Prop := ∃ M : Nat, v = vi ((M : Nat) : Int) ∧ M < n ∧ IsPw M
set_option maxRecDepth 100000 in
set_option maxHeartbeats 2000000 in
theorem halves_any (a n : Nat) (hn1 : 2 ≤ n) (hn : a + n ≤ 65536) (w : World) :
    Calls Tryz.prog 84 #[Gp a (a + n)] w fun e w' => e = .returned (.tuple #[Gp a (a + leftN n), Gp (a + leftN n) (a + n)]) ∧ Below w.heap.size w w' := by
  have hbA : Below w.heap.size w (w.alloc (.cells #[vi a, vi ((a + n : Nat) : Int)] 100)) := (Below.refl _ _).alloc (Nat.le_refl _) _
  have hB := Blk.new w 100 #[vi a, vi ((a + n : Nat) : Int)]
  have e0 := (hB.cell 0).trans (show _ = some (vi a) from rfl)
  have e1 := (hB.cell 1).trans (show _ = some (vi ((a + n : Nat) : Int)) from rfl)
  go_enter Tryz.func84, Tryz.ntmps84
  go_wp2
  go_loop [4] (fun v => LeftRel n v) (fun v => n - (intOf v).toNat)
  case atStart => exact ⟨1, rfl, by omega, 0, rfl⟩
  case round =>
    obtain ⟨M, rfl, hM, hpw⟩ := hrel
    have hp := hpw.pos
    have HPW := Lib.hid hpw
    clear hpw
    by_cases h : 2 * M < n
    · go_wp2
      go_round
      case rel => exact ⟨2 * M, by go_num, h, HPW.out.dbl⟩
      case measure => simp [intOf]; omega
    · have hl : M = leftN n := HPW.out.left hM (by omega)
      have HLE := Lib.hid hl
      clear hl
      go_wp2
      go_region
      go_wp2
      refine bodyPost_ret (v := .tuple #[.agg #[vi a, vi ((a : Int) + M)], .agg #[vi ((a : Int) + M), vi ((a : Int) + n)]]) (by simp [results, Tryz.results84, go_sem]) rfl ⟨?_, ?_⟩
      · have he := HLE.out
        subst he
        simp [Gp]
      · exact below_drewN ((((Below.refl _ _).alloc (Nat.le_refl _) _).alloc (by simp) _).alloc (by simp; omega) _) 1
end Go.Proofs.YtonalbdehcmjmaaGreat

/- Walks: slices.BinarySearch at a list of ints that ascends. -/
set_option linter.unusedVariables false
namespace Go.Proofs.YtonalbdehcmjmaaGreat
open Go.RowKit Zp
set_option maxRecDepth 100000 in
theorem nan1_any (x : Int) (w : World) : Calls Tryz.prog 117 #[vi x] w fun e w' => e = .returned (.bool false) ∧ w = w' := by
  have t1 : (x != x) = false := by simp
  go_enter Tryz.func117, Tryz.ntmps117
  go_wp2
  go_ret
  exact ⟨rfl, rfl⟩
theorem nan2_any (x : Int) (w : World) : Calls Tryz.prog 110 #[vi x] w fun e w' => e = .returned (.bool false) ∧ w = w' := by
  have t1 : (x != x) = false := by simp
  go_enter Tryz.func110, Tryz.ntmps110
  go_wp2
  go_ret
  exact ⟨rfl, rfl⟩
theorem less_any (x y : Int) (w : World) : Calls Tryz.prog 102 #[vi x, vi y] w fun e w' => e = .returned (.bool (decide (x < y))) ∧ w = w' := by
  have H1 := Lib.hid (fun z w => nan1_any z w)
  go_enter Tryz.func102, Tryz.ntmps102
  go_wp2_with fail
  refine (H1.out _ _).mono ?_
  rintro e w' ⟨rfl, rfl⟩
  go_wp2
  go_ret
  exact ⟨rfl, rfl⟩
end Go.Proofs.YtonalbdehcmjmaaGreat

/- Walk: slices.BinarySearch at a list of ints that ascends. -/
set_option linter.unusedVariables false
namespace Go.Proofs.YtonalbdehcmjmaaGreat
open Go.RowKit Zp
theorem ret_low {i k : Nat} (h : k = i) (b : Bool) : Ending.returned (.tuple #[.int .i64 (i : Int), .bool b]) = .returned (.tuple #[vi (k : Int), .bool b]) := by rw [h]
set_option maxRecDepth 100000 in
set_option maxHeartbeats 4000000 in
theorem bsearch_any (A : Option Addr) (n c : Nat) (l : List Int) (hml : l.length = n) (hn : n ≤ 4611686018427387903) (hup : Asc l) (t : Int) (w : World) (hs : SL w A l) :
    Calls Tryz.prog 90 #[.slice A n c, vi t] w fun e w' => (∃ b, e = .returned (.tuple #[vi (lowB l t), .bool b])) ∧ w = w' := by
  have H1 := Lib.hid (fun x y w => less_any x y w)
  have H2 := Lib.hid (fun z w => nan2_any z w)
  have HU := Lib.hid hup
  have HM := Lib.hid hml
  have HS := Lib.hid hs
  clear hup hml hs
  go_enter Tryz.func90, Tryz.ntmps90
  go_wp2
  go_loopg [7, 8] n (fun g s7 s8 wr => ∃ lo hi : Nat, s7 = .int .i64 lo ∧ s8 = .int .i64 hi ∧ lo ≤ hi ∧ hi ≤ n ∧ hi - lo ≤ g ∧ w = wr ∧ (∀ j, j < lo → ∀ x, l[j]? = some x → x < t) ∧ (∀ j, hi ≤ j → ∀ x, l[j]? = some x → t ≤ x))
  case atStart => exact ⟨0, n, rfl, rfl, Nat.zero_le _, Nat.le_refl _, by omega, rfl, fun j hj => absurd hj (Nat.not_lt_zero _), fun j hj x hx => by rw [List.getElem?_eq_none (by rw [HM.out]; exact hj)] at hx; cases hx⟩
  case round =>
    obtain ⟨lo, hi, rfl, rfl, hlh, hin, hg, rfl, h1, h2⟩ := hrel
    have I1 := Lib.hid h1
    have I2 := Lib.hid h2
    clear h1 h2
    by_cases hlt : lo < hi
    · obtain ⟨ad, rfl, hadl, hcx⟩ := HS.out.at_ (k := (lo + hi) / 2) (by rw [HM.out]; omega)
      obtain ⟨y, hy⟩ : ∃ y, y = l[(lo + hi) / 2]'(by rw [HM.out]; omega) := ⟨_, rfl⟩
      rw [← hy] at hcx
      have hyg : l[(lo + hi) / 2]? = some y := by rw [hy, List.getElem?_eq_getElem]
      have HY := Lib.hid hyg
      clear hy hyg
      by_cases hyx : y < t
      · go_wp2_with fail
        refine (H1.out _ _ _).mono ?_
        rintro e w' ⟨rfl, rfl⟩
        go_wp2
        go_roundg (hi - ((lo + hi) / 2 + 1))
        case measure => omega
        case rel =>
          refine ⟨(lo + hi) / 2 + 1, hi, by rw [show ((lo : Int) + (hi : Int)) / 2 + 1 = (((lo + hi) / 2 + 1 : Nat) : Int) by omega], rfl, by omega, hin, Nat.le_refl _, rfl, fun j hj x hx => ?_, I2.out⟩
          have hjl : j < l.length := (List.getElem?_eq_some_iff.1 hx).1
          have hml : (lo + hi) / 2 < l.length := (List.getElem?_eq_some_iff.1 HY.out).1
          have := HU.out.at_le (i := j) (j := (lo + hi) / 2) (by omega) hml
          have e1 : l[j] = x := (List.getElem?_eq_some_iff.1 hx).2
          have e2 : l[(lo + hi) / 2] = y := (List.getElem?_eq_some_iff.1 HY.out).2
          omega
      · go_wp2_with fail
        refine (H1.out _ _ _).mono ?_
        rintro e w' ⟨rfl, rfl⟩
        go_wp2
        go_roundg ((lo + hi) / 2 - lo)
        case measure => omega
        case rel =>
          refine ⟨lo, (lo + hi) / 2, rfl, by rw [show ((lo : Int) + (hi : Int)) / 2 = (((lo + hi) / 2 : Nat) : Int) by omega], by omega, by omega, Nat.le_refl _, rfl, I1.out, fun j hj x hx => ?_⟩
          have hjl : j < l.length := (List.getElem?_eq_some_iff.1 hx).1
          have := HU.out.at_le (i := (lo + hi) / 2) (j := j) hj hjl
          have e1 : l[j] = x := (List.getElem?_eq_some_iff.1 hx).2
          have e2 : l[(lo + hi) / 2]'(by omega) = y := (List.getElem?_eq_some_iff.1 HY.out).2
          omega
    · have he : hi = lo := by omega
      subst he
      have HB := Lib.hid (lowB_of (l := l) (t := t) (i := hi) (by rw [HM.out]; exact hin) I1.out (fun x hx => I2.out hi (Nat.le_refl _) x hx))
      by_cases hn2 : hi < n
      · obtain ⟨ad, rfl, hadl, hcx⟩ := HS.out.at_ (k := hi) (by rw [HM.out]; exact hn2)
        generalize l[hi]'(by rw [HM.out]; exact hn2) = y at hcx
        by_cases hyx : y = t
        · go_wp2
          go_ret2
          exact ⟨⟨_, ret_low HB.out _⟩, rfl⟩
        · go_wp2_with (first | (refine (H2.out _ _).mono ?_; rintro e w' ⟨rfl, rfl⟩))
          go_ret2
          exact ⟨⟨_, ret_low HB.out _⟩, rfl⟩
      · go_wp2
        go_ret2
        exact ⟨⟨_, ret_low HB.out _⟩, rfl⟩
end Go.Proofs.YtonalbdehcmjmaaGreat

/- Several slices of ints in memory. -/
set_option linter.unusedVariables false
namespace Go.Proofs.YtonalbdehcmjmaaGreat
open Go.RowKit

/-- several tables in memory -/
def TB (w : World) (A0 : Option Addr) (ts : List (List Int)) : Prop :=
  ∀ k (hk : k < ts.length), ∃ ad A n c, A0 = some ad ∧ (ad.add k).block < w.heap.size ∧ w.cell? (ad.add k) = some (.slice A n c) ∧ ts[k].length = n ∧ n < 9223372036854775808 ∧ SL w A ts[k] ∧ ∀ x ∈ ts[k], I64 x
theorem TB.below {w w' : World} {A0 : Option Addr} {ts : List (List Int)} (h : TB w A0 ts) (hb : Below w.heap.size w w') : TB w' A0 ts := fun k hk => by
  obtain ⟨ad, A, n, c, h1, h2, h3, h4, h5, h6, h7⟩ := h k hk
  exact ⟨ad, A, n, c, h1, Nat.lt_of_lt_of_le h2 hb.size, (hb.cell h2).trans h3, h4, h5, h6.below hb, h7⟩
theorem TB.drewN {w : World} {A0 : Option Addr} {ts : List (List Int)} (h : TB w A0 ts) (m : Nat) : TB (w.drewN m) A0 ts := h

end Go.Proofs.YtonalbdehcmjmaaGreat

/- Small facts: digests are ints; tables that are written out. -/
set_option linter.unusedVariables false
namespace Go.Proofs.YtonalbdehcmjmaaGreat
open Go.RowKit Zp
theorem i64_digL {p k : Nat} [NeZero p] (hm : p ≤ 2147483647) (l : List Int) : ∀ x ∈ digL p k l, I64 x := by
  intro x hx
  obtain ⟨j, _, rfl⟩ := List.mem_map.1 hx
  exact i64_fv _ hm
theorem tb_lit1 {w : World} {A : Option Addr} {n c : Nat} {xs : List Int} (h : SL w A xs) (hl : xs.length = n) (hn : n < 9223372036854775808) (hI : ∀ x ∈ xs, I64 x) :
    TB (w.alloc (.cells #[.slice A n c] 22)) (some ⟨w.heap.size, 0, none⟩) [xs] := fun k hk => by
  have e : k = 0 := by simp at hk; omega
  subst e
  exact ⟨_, A, n, c, rfl, by simp [Addr.add], by rw [Addr.add_mid]; exact ((Blk.new w 22 #[.slice A n c]).cell 0).trans rfl, hl, hn, h.below ((Below.refl _ _).alloc (Nat.le_refl _) _), hI⟩
theorem tb_lit2 {w : World} {A B : Option Addr} {n c m d : Nat} {xs ys : List Int} (h : SL w A xs) (hl : xs.length = n) (hn : n < 9223372036854775808) (hI : ∀ x ∈ xs, I64 x) (h' : SL w B ys) (hl' : ys.length = m) (hn' : m < 9223372036854775808) (hI' : ∀ x ∈ ys, I64 x) :
    TB (w.alloc (.cells #[.slice A n c, .slice B m d] 22)) (some ⟨w.heap.size, 0, none⟩) [xs, ys] := fun k hk => by
  have hb : Below w.heap.size w (w.alloc (.cells #[.slice A n c, .slice B m d] 22)) := (Below.refl _ _).alloc (Nat.le_refl _) _
  match k, hk with
  | 0, _ => exact ⟨_, A, n, c, rfl, by simp [Addr.add], by rw [Addr.add_mid]; exact ((Blk.new w 22 #[.slice A n c, .slice B m d]).cell 0).trans rfl, hl, hn, h.below hb, hI⟩
  | 1, _ => exact ⟨_, B, m, d, rfl, by simp [Addr.add], by rw [Addr.add_mid]; exact ((Blk.new w 22 #[.slice A n c, .slice B m d]).cell 1).trans rfl, hl', hn', h'.below hb, hI'⟩
end Go.Proofs.YtonalbdehcmjmaaGreat

/- slices.Grow of nil; slices.Concat of slices of ints. -/
set_option linter.unusedVariables false
namespace Go.Proofs.YtonalbdehcmjmaaGreat
open Go.RowKit

set_option maxRecDepth 100000 in
set_option maxHeartbeats 2000000 in
theorem grow_nil (n : Nat) (hn : n * 8 ≤ 140737488355328) (w : World) :
    Calls Tryz.prog 82 #[.slice none 0 0, vi n] w fun e w' => Made [] w e w' := by
  rcases Nat.eq_zero_or_pos n with h0 | h0
  · subst h0
    go_enter Tryz.func82, Tryz.ntmps82
    go_wp2
    go_ret
    exact ⟨_, rfl, World.ownsRow_nil _ _ _ _, Below.refl _ _⟩
  · obtain ⟨i0, hi, hz0, hz1, hz2⟩ := info_parts info_int
    have hr := Lib.run_append_nil_zeros (P := Tryz.prog) w 22 3 22 3 i0 (.int .i64 0) .i64 .i64 Tryz.underlying22 Tryz.underlying3 hi hz0 n h0 (by omega) (by omega) (by rw [hz2]; omega)
    obtain ⟨c, hc⟩ : ∃ c, c = grownCap w n 0 3 := ⟨_, rfl⟩
    have hcm : c ≤ maxLen := by
      have := grownCap_le_maxLen w n 0 3 (by unfold maxLen; omega)
      omega
    have hge : n ≤ c := by
      have := grownCap_ge w n 0 3
      omega
    rw [← hc] at hr
    obtain ⟨cs, hcs⟩ : ∃ cs, cs = Builtin.zeroCells (Value.int .i64 0).cells n ++ Builtin.zeroCells (Value.int .i64 0).cells (c - n) := ⟨_, rfl⟩
    rw [← hcs] at hr
    have hsz : cs.size = c := by
      rw [hcs, Array.size_append, size_zeroCells, size_zeroCells]
      simp [Value.cells]
      omega
    have ho : Own (w.drew.alloc (.cells cs 3)) w.heap.size (.slice (some ⟨w.heap.size, 0, none⟩) 0 c) [] := World.ownsRow_made w.drew cs c (Nat.le_refl _) hcm (by rw [hsz, Nat.mul_one])
    have hb : Below w.heap.size w (w.drew.alloc (.cells cs 3)) := (below_drewN (Below.refl w.heap.size w) 1).alloc (Nat.le_refl _) _
    have HO := Lib.hid ho
    have HB := Lib.hid hb
    have n1 : (0 : Int) < (n : Int) := by omega
    have n2 : (n : Int) ≤ 17592186044416 := by omega
    have n3 : 0 < n := h0
    have c1 : (c : Int) ≤ 9223372036854775807 := by unfold maxLen at hcm; omega
    clear hc hcs hsz hi hz0 hz1 hz2 ho hb hcm
    go_enter Tryz.func82, Tryz.ntmps82
    go_wp2_with (at_builtin; refine Lib.wpList_append_run _ rfl _ _ _ _ rfl _ _ rfl rfl _ _ hr ?_)
    go_ret
    exact ⟨_, rfl, HO.out, HB.out⟩
theorem flat_take {ts : List (List Int)} {k : Nat} (hk : k < ts.length) : (ts.take (k + 1)).flatten = (ts.take k).flatten ++ ts[k] := by
  rw [List.take_succ_eq_append_getElem hk, List.flatten_append]; simp
theorem flat_le (ts : List (List Int)) (k : Nat) : (ts.take k).flatten.length ≤ ts.flatten.length := by
  have h := congrArg (fun l => (List.flatten l).length) (List.take_append_drop k ts)
  simp only [List.flatten_append, List.length_append] at h
  omega
set_option maxRecDepth 100000 in
set_option maxHeartbeats 2000000 in
theorem concat_any (A : Option Addr) (m c : Nat) (ts : List (List Int)) (hm : ts.length = m) (hmm : m ≤ 1000000) (htot : ts.flatten.length * 8 ≤ 140737488355328) (w : World) (hT : TB w A ts) :
    Calls Tryz.prog 56 #[.slice A m c] w fun e w' => Made ts.flatten w e w' := by
  have HT := Lib.hid hT
  have HM := Lib.hid hm
  obtain ⟨N, hN⟩ : ∃ N, N = ts.flatten.length := ⟨_, rfl⟩
  have HN := Lib.hid hN
  rw [← hN] at htot
  have HG := Lib.hid (fun w => grow_nil N htot w)
  clear hT hm hN
  go_enter Tryz.func56, Tryz.ntmps56
  go_wp2
  go_loop [3, 11, 5] (fun s t _ => ∃ k : Nat, k ≤ m ∧ t = vi k ∧ s = vi ((ts.take k).flatten.length : Nat)) (fun _ t _ => m - (intOf t).toNat)
  case atStart => exact ⟨0, by omega, rfl, by simp⟩
  case round =>
    obtain ⟨k, hk, rfl, rfl⟩ := hrel
    have hle := flat_le ts k
    rw [← HN.out] at hle
    by_cases hkm : k < m
    · obtain ⟨ad, A1, n1, c1, rfl, hb1, hc1, hl1, hn1, _, _⟩ := HT.out k (by rw [HM.out]; exact hkm)
      have hft := flat_take (ts := ts) (k := k) (by rw [HM.out]; exact hkm)
      have hft2 := congrArg List.length hft
      rw [List.length_append, hl1] at hft2
      have hle2 := flat_le ts (k + 1)
      rw [← HN.out] at hle2
      obtain ⟨S, hS⟩ : ∃ S, S = (ts.take k).flatten.length := ⟨_, rfl⟩
      rw [← hS] at hft2 hle ⊢
      have k1 : (0 : Int) ≤ (k : Int) := by omega
      have k2 : (k : Int) < (m : Int) := by omega
      have s1 : (0 : Int) ≤ (S : Int) := by omega
      have s2 : (0 : Int) ≤ (S : Int) + (n1 : Int) := by omega
      have s3 : (S : Int) + (n1 : Int) ≤ 17592186044416 := by omega
      have HF := Lib.hid hft2
      clear hft hft2 hS hl1 hle2 hb1
      go_wp2
      go_round
      case rel => exact ⟨k + 1, by omega, by go_num, by rw [HF.out]; go_num⟩
      case measure => simp [intOf]; omega
    · have ek : k = m := by omega
      have hall : (ts.take k).flatten.length = N := by rw [ek, ← HM.out, List.take_length]; exact HN.out.symm
      rw [hall]
      have t1 : ¬ (k : Int) < (m : Int) := by omega
      clear ek hall hle
      go_wp2_with fail
      refine (HG.out w).mono ?_
      rintro _ w1 ⟨v, rfl, ho, hb⟩
      go_wp2
      go_loopw [6, 27, 8] (fun v t _ wr => ∃ k : Nat, k ≤ m ∧ t = vi k ∧ Own wr w.heap.size v (ts.take k).flatten ∧ Below w.heap.size w wr) (fun _ t _ _ => m - (intOf t).toNat)
      case atStart => exact ⟨0, by omega, rfl, ho, hb⟩
      case round =>
        clear ho hb
        obtain ⟨k, hk, rfl, ho, hb⟩ := hrel
        by_cases hkm : k < m
        · obtain ⟨ad, A1, n1, c1, rfl, hb1, hc1, hl1, hn1, hs1, _⟩ := HT.out k (by rw [HM.out]; exact hkm)
          have hc1r := (hb.cell (p := ad.add k) hb1).trans hc1
          have hft := flat_take (ts := ts) (k := k) (by rw [HM.out]; exact hkm)
          have hle2 := flat_le ts (k + 1)
          have hft2 := congrArg List.length hft
          rw [List.length_append, hl1] at hft2
          rw [← HN.out] at hle2
          have hlim : (ts.take k).flatten.length + n1 ≤ 17592186044416 := by omega
          have HF := Lib.hid hft
          have HL1 := Lib.hid hl1
          have HLIM := Lib.hid hlim
          have hs1r := hs1.below hb
          have k1 : (0 : Int) ≤ (k : Int) := by omega
          have k2 : (k : Int) < (m : Int) := by omega
          clear hft hft2 hle2 hlim hl1 hb1 hc1 hs1
          go_wp2_with (at_builtin; refine wpList_appA wr rfl _ _ rfl w.heap.size _ _ A1 n1 c1 _ rfl rfl HL1.out ho hs1r HLIM.out hb.size ?_; intro v' w2 hg)
          have ho2 := hg.own
          have hb2 := hg.below hb ho (Nat.le_refl _) hb.size
          rw [← HF.out] at ho2
          exact ⟨⟨k + 1, by omega, by go_num, ho2, hb2⟩, by simp [intOf]; omega⟩
        · have ek : k = m := by omega
          have hall : (ts.take k).flatten = ts.flatten := by rw [ek, ← HM.out, List.take_length]
          rw [hall] at ho
          have t1 : ¬ (k : Int) < (m : Int) := by omega
          clear ek hall
          go_wp2
          go_ret
          exact ⟨_, rfl, ho, hb⟩
end Go.Proofs.YtonalbdehcmjmaaGreat

/- The walks of package chain: told, New, Take, Draw, Draws, Place, Digest, Fork. -/
set_option linter.unusedVariables false
namespace Go.Proofs.YtonalbdehcmjmaaGreat
open Go.RowKit Zp

/-- append(v, ys...), at a step of a region that draws its order -/
theorem step_appA {ops : Array Oper} {o : Oper} {a : Act} {K : Act → World → Prop} {Q : Exit → Act → World → Prop} {E : Prop} (w : World) (hgd : o.guard = none) (s x : Operand)
    (ho : o.op = .call { callee := .builtin .append, args := #[s, x], argTypes := #[22, 22] })
    (base : Nat) (v : Value) (xs : List Int) (A : Option Addr) (m c : Nat) (ys : List Int) (hs : a.eval s = v) (hx : a.eval x = .slice A m c) (hm : ys.length = m) (hown : Own w base v xs) (hr : SL w A ys) (hlen : xs.length + m ≤ 17592186044416) (hbase : base ≤ w.heap.size)
    (h : ∀ v' w', Grew w w' base v v' (xs ++ ys) → K (a.put o.dst v') w') :
    if Region.wanted o (yielded ops a.tmps) = true then Oper.wp Tryz.prog o a w K Q else E := by
  have hw : Region.wanted o (yielded ops a.tmps) = true := by simp [Region.wanted, hgd]
  rw [if_pos hw]
  obtain ⟨v', w', hrun, hg⟩ := run_appA w base v xs A m c ys hm hown hr hlen hbase o.type
  unfold Oper.wp execOp
  simp only [ho, resolve, invoke, builtin, Sem.run_bind, Sem.run_pure, Result.andThen_ok, List.map_toArray, List.map_cons, List.map_nil, hs, hx, hrun]
  exact h v' w' hg
theorem firstA {w w2 : World} {x : Int} (hb2 : Below (w.alloc (.cells #[vi x] 3)).drew.heap.size (w.alloc (.cells #[vi x] 3)).drew w2) : Own w2 w.heap.size (.slice (some ⟨w.heap.size, 0, none⟩) 1 1) [x] :=
  Own.below (w := (w.alloc (.cells #[vi x] 3)).drew) (own_lit w w.heap.size [x] (Nat.le_refl _) (by simp [maxLen])) hb2
theorem firstB {w w2 : World} {x : Int} (h : w.heap.size ≤ w2.heap.size) : Own (w2.alloc (.cells #[vi x] 3)) w.heap.size (.slice (some ⟨w2.heap.size, 0, none⟩) 1 1) [x] :=
  own_lit w2 w.heap.size [x] h (by simp [maxLen])
theorem below_first (w : World) (x : Int) : Below w.heap.size w (w.alloc (.cells #[vi x] 3)).drew := below_drewN ((Below.refl _ _).alloc (Nat.le_refl _) _) 1
/-- the object of a chain -/
def ChO (w : World) (c s : Nat) (v : Value) : Prop := Blk w c 67 #[.pointer (some ⟨s, 0, none⟩), v]
/-- what is left of told -/
def ToldIs {p : Nat} [NeZero p] (c s : Nat) (D : Nat → Fin p) (w : World) (e : Ending) (w' : World) : Prop :=
  (∃ r, e = .returned r) ∧ ∃ g : Nat, ChO w' c s (.slice (some ⟨g, 0, none⟩) 4 4) ∧ Blk w' g 56 (st fun j => fv (D j)) ∧ w.heap.size ≤ g ∧ w.grownBy w' (some c)
set_option maxRecDepth 100000 in
set_option maxHeartbeats 8000000 in
theorem told_c (p S b s k z c : Nat) [NeZero p] (oo : Nat → Nat → Fin p) (first : Int) (hfi : I64 first) (A : Option Addr) (m cap : Nat) (ts : List (List Int)) (hm : ts.length = m) (hmm : m ≤ 1000000) (hI : ∀ x ∈ ts.flatten, I64 x) (htot : ts.flatten.length * 8 + 80 ≤ 140737488355328) (v : Value) (w : World) (F : Fld w S b p) (G : Spg w s b k z oo) (hS : S ≤ c) (hs : s < c) (hC : ChO w c s v) (hT : TB w A ts) :
    Calls Tryz.prog 26 #[.pointer (some ⟨c, 0, none⟩), vi first, .slice A m cap] w fun e w' => ToldIs c s (digE p k (first :: ts.flatten)) w e w' := by
  have hcl := Blk.lt hC
  have hcs : w.cell? ⟨c, 0, none⟩ = some (.pointer (some ⟨s, 0, none⟩)) := (Blk.cell hC 0).trans rfl
  have HCC := Lib.hid (fun W (hW : TB W A ts) => concat_any A m cap ts hm hmm (by omega) W hW)
  have HH := Lib.hid (fun W A n cp (hA : SL W A (first :: ts.flatten)) (hn : (first :: ts.flatten).length = n) (F : Fld W S b p) (G : Spg W s b k z oo) => hash_any p S b s k z oo A n cp (first :: ts.flatten) hn (by
    intro x hx
    rcases List.mem_cons.1 hx with rfl | hx
    · exact hfi
    · exact hI x hx) (by rw [List.length_cons] at hn; omega) W F G hA)
  have HF := Lib.hid F
  have HG := Lib.hid G
  have HT := Lib.hid hT
  have HC := Lib.hid hC
  obtain ⟨L, hL⟩ : ∃ L, L = ts.flatten := ⟨_, rfl⟩
  have hLl : L.length + 1 ≤ 17592186044416 := by rw [hL]; omega
  rw [← hL] at HCC HH ⊢
  clear hL F G hT hC hm hmm hI htot
  go_enter Tryz.func26, Tryz.ntmps26
  go_wp2_with fail
  have HTA := Lib.hid (HT.out.below (below_first w first))
  have hcsA : (w.alloc (.cells #[vi first] 3)).drew.cell? ⟨c, 0, none⟩ = some (.pointer (some ⟨s, 0, none⟩)) := ((below_first w first).cell (p := ⟨c, 0, none⟩) hcl).trans hcs
  go_region_held3 (fun w' => w'.cell? ⟨c, 0, none⟩ = some (.pointer (some ⟨s, 0, none⟩))) (first | exact hcs | exact hcsA | exact (World.cell?_setCell_other _ _ _ _ (by simp)).trans ((hb4.cell (p := ⟨c, 0, none⟩) hcl).trans hcs) | exact (hb4.cell (p := ⟨c, 0, none⟩) hcl).trans hcs | exact (hb3.cell (p := ⟨c, 0, none⟩) hcl).trans hcs | exact (hb2.cell (p := ⟨c, 0, none⟩) hcl).trans hcs | go_keep) ((first
    | (go_at_call 56; refine (HCC.out _ (by first | exact HT.out | exact HTA.out)).mono ?_; rintro _ w2 ⟨v2, rfl, ho2, hb2'⟩; obtain ⟨A2, n2, c2, rfl, hl2, _, _, hs2⟩ := ho2.shapeN; have HL2 := Lib.hid hl2; have hb2 : Below w.heap.size w w2 := (by first | exact hb2' | exact ⟨hb2'.os, hb2'.tape, hb2'.output, hb2'.size, hb2'.block⟩ | exact (below_first w first).trans (hb2'.mono (below_first w first).size)); have HB2 := Lib.hid hb2'; clear hl2 ho2 hb2')
    | (refine step_appA _ (by rfl) _ _ (by rfl) w.heap.size _ [first] A2 n2 c2 L (by rfl) (by rfl) HL2.out (firstA HB2.out) hs2 (by have := HL2.out; simp; omega) hb2.size ?_; intro v3 w3 hg3; have ho3 := hg3.own; have hb3 := hg3.below hb2 (firstA HB2.out) (Nat.le_refl _) hb2.size; obtain ⟨A3, n3, c3, rfl, hl3, _, _, hs3⟩ := ho3.shapeN; have HL3 := Lib.hid hl3; clear hl3 ho3 hg3)
    | (refine step_appA _ (by rfl) _ _ (by rfl) w.heap.size _ [first] A2 n2 c2 L (by rfl) (by rfl) HL2.out (firstB hb2.size) (hs2.below ((Below.refl _ w2).alloc (Nat.le_refl _) _)) (by have := HL2.out; simp; omega) (by have := hb2.size; simp; omega) ?_; intro v3 w3 hg3; have ho3 := hg3.own; have hb3 := hg3.below (hb2.alloc hb2.size _) (firstB hb2.size) (Nat.le_refl _) (by have := hb2.size; simp; omega); obtain ⟨A3, n3, c3, rfl, hl3, _, _, hs3⟩ := ho3.shapeN; have HL3 := Lib.hid hl3; clear hl3 ho3 hg3)
    | (go_at_call 55; refine (HH.out _ A3 n3 c3 hs3 HL3.out (HF.out.below hb3 HF.out.le) (HG.out.below hb3 (by omega))).mono ?_; rintro _ w4 ⟨g, rfl, hB4, hg4, hb4'⟩; have hb4 := hb3.trans (hb4'.mono hb3.size); have hC4 := Blk.below HC.out hb4 hcl; have cc1 := Blk.cell hC4 1; have cf1 := Blk.frozen hC4 1)))
  all_goals have hs34 := hb3.size
  all_goals have hgc : g ≠ c := by omega
  all_goals have hfin : ToldIs c s (digE p k (first :: L)) w (.returned undef) (w4.setCell ⟨c, 1, none⟩ (.slice (some ⟨g, 0, none⟩) 4 4)) := ⟨⟨_, rfl⟩, g, Blk.set_ hC4 1 (.slice (some ⟨g, 0, none⟩) 4 4), hB4.far (p := ⟨c, 1, none⟩) hgc _, by omega, grownBy_trans (grown_of_below hb4 _) blk_grown⟩
  all_goals have HFIN := Lib.hid hfin
  all_goals clear hfin
  all_goals go_wp2
  all_goals go_end0
  all_goals exact ⟨⟨_, rfl⟩, HFIN.out.2⟩
/-- a chain in memory, whose digest reads D -/

def Dty (t : TypeId) : Prop := t = 3 ∨ t = 56
theorem Dty.ne {t u : TypeId} (h : Dty t) (h1 : u ≠ 3) (h2 : u ≠ 56) : t ≠ u := fun e => by
  subst e
  rcases h with h | h
  · exact h1 h
  · exact h2 h
def Chn (w : World) (c s : Nat) (D : List Int) : Prop :=
  ∃ (g cap : Nat) (t : TypeId) (cs : Array Value), ChO w c s (.slice (some ⟨g, 0, none⟩) 4 cap) ∧ Blk w g t cs ∧ Dty t ∧ SL w (some ⟨g, 0, none⟩) D ∧ D.length = 4 ∧ 4 ≤ cap ∧ cap ≤ maxLen ∧ ∀ x ∈ D, I64 x
theorem Chn.far {w w' : World} {c s x : Nat} {D : List Int} {v : Value} (h : Chn w c s D) (hx : ChO w x s v) (hg : w.grownBy w' (some x)) (hne : c ≠ x) : Chn w' c s D := by
  obtain ⟨g, cap, t, cs, h1, h2, h3, h4, h5, h6, h7, h8⟩ := h
  have hgx : g ≠ x := Blk.ne_ h2 hx (h3.ne (by decide) (by decide))
  exact ⟨g, cap, t, cs, Blk.grown h1 hg (by intro e; injection e with e; exact hne e), h2.grown hg (by intro e; injection e with e; exact hgx e), h3, h4.far hg hgx, h5, h6, h7, h8⟩
theorem Chn.below {w w' : World} {c s : Nat} {D : List Int} (h : Chn w c s D) (hb : Below w.heap.size w w') : Chn w' c s D := by
  obtain ⟨g, cap, t, cs, h1, h2, h3, h4, h5, h6, h7, h8⟩ := h
  exact ⟨g, cap, t, cs, Blk.below h1 hb (Blk.lt h1), h2.below hb h2.lt, h3, h4.below hb, h5, h6, h7, h8⟩
theorem Chn.drewN {w : World} {c s : Nat} {D : List Int} (h : Chn w c s D) (n : Nat) : Chn (w.drewN n) c s D := h
theorem Chn.lt {w : World} {c s : Nat} {D : List Int} (h : Chn w c s D) : c < w.heap.size := by
  obtain ⟨g, cap, t, cs, h1, _⟩ := h
  exact Blk.lt h1
theorem Chn.obj {w : World} {c s : Nat} {D : List Int} (h : Chn w c s D) : ∃ v, ChO w c s v := by
  obtain ⟨g, cap, t, cs, h1, _⟩ := h
  exact ⟨_, h1⟩
/-- the digest lies elsewhere -/
def DigNe (w : World) (c x : Nat) : Prop := ∃ g cap : Nat, w.cell? ⟨c, 1, none⟩ = some (.slice (some ⟨g, 0, none⟩) 4 cap) ∧ g ≠ x
/-- the digest lies in new memory -/
def DigNew (w : World) (c B : Nat) : Prop := ∃ g cap : Nat, w.cell? ⟨c, 1, none⟩ = some (.slice (some ⟨g, 0, none⟩) 4 cap) ∧ B ≤ g
theorem DigNew.ne {w : World} {c B x : Nat} (h : DigNew w c B) (hx : x < B) : DigNe w c x := by
  obtain ⟨g, cap, h1, h2⟩ := h
  exact ⟨g, cap, h1, by omega⟩
theorem DigNew.less {w : World} {c B B' : Nat} (h : DigNew w c B) (hx : B' ≤ B) : DigNew w c B' := by
  obtain ⟨g, cap, h1, h2⟩ := h
  exact ⟨g, cap, h1, by omega⟩
theorem Chn.keepX {w w' : World} {c s x : Nat} {D : List Int} (h : Chn w c s D) (hg : w.grownBy w' (some x)) (hne : c ≠ x) (hd : DigNe w c x) : Chn w' c s D := by
  obtain ⟨g, cap, t, cs, h1, h2, h3, h4, h5, h6, h7, h8⟩ := h
  obtain ⟨g', cap', hc', hgx⟩ := hd
  have : w.cell? ⟨c, 1, none⟩ = some (.slice (some ⟨g, 0, none⟩) 4 cap) := (Blk.cell h1 1).trans rfl
  rw [this] at hc'
  injection hc' with hc'
  injection hc' with e _ _
  injection e with e
  injection e with e _ _
  subst e
  exact ⟨g, cap, t, cs, Blk.grown h1 hg (by intro e; injection e with e; exact hne e), h2.grown hg (by intro e; injection e with e; exact hgx e), h3, h4.far hg hgx, h5, h6, h7, h8⟩
/-- a step of a chain -/
def StepIs (c s : Nat) (D : List Int) (w : World) (e : Ending) (w' : World) : Prop := (∃ r, e = .returned r) ∧ Chn w' c s D ∧ w.grownBy w' (some c) ∧ DigNew w' c w.heap.size
theorem ToldIs.step {p k : Nat} [NeZero p] (hm : p ≤ 2147483647) {c s : Nat} {l : List Int} {w w' : World} {e : Ending} (h : ToldIs c s (digE p k l) w e w') : StepIs c s (digL p k l) w e w' := by
  obtain ⟨hr, g, h1, h2, h3, h4⟩ := h
  exact ⟨hr, ⟨g, 4, _, _, h1, h2, .inr rfl, dig_sl h2, digL_len _ _, Nat.le_refl _, by simp [maxLen], i64_digL hm l⟩, h4, ⟨g, 4, (Blk.cell h1 1).trans rfl, h3⟩⟩
theorem grown_alloc {w w' : World} {o : Obj} {row : Option Nat} (h : (w.alloc o).grownBy w' row) : w.grownBy w' row := grownBy_trans (World.grownBy_alloc w o row) h
set_option maxRecDepth 100000 in
set_option maxHeartbeats 4000000 in
theorem chnew_any (p S b s k z : Nat) [NeZero p] (oo : Nat → Nat → Fin p) (A : Option Addr) (n cap : Nat) (l : List Int) (hn : l.length = n) (hI : ∀ x ∈ l, I64 x) (hr : n * 8 ≤ 140737488351232) (w : World) (F : Fld w S b p) (G : Spg w s b k z oo) (hs : SL w A l) :
    Calls Tryz.prog 8 #[.pointer (some ⟨s, 0, none⟩), .slice A n cap] w fun e w' => e = .returned (.pointer (some ⟨w.heap.size, 0, none⟩)) ∧ Chn w' w.heap.size s (digL p k (2 :: l)) ∧ Below w.heap.size w w' := by
  have hsl := block_lt_of_cell G.c0
  have hb1 : Below w.heap.size w (w.alloc (.cells #[.pointer (some ⟨s, 0, none⟩), .slice none 0 0] 67)) := (Below.refl _ _).alloc (Nat.le_refl _) _
  have hC := Blk.new w 67 #[.pointer (some ⟨s, 0, none⟩), .slice none 0 0]
  obtain ⟨W, hW⟩ : ∃ W, W = w.alloc (.cells #[.pointer (some ⟨s, 0, none⟩), .slice none 0 0] 67) := ⟨_, rfl⟩
  rw [← hW] at hb1 hC
  have hWs : W.heap.size = w.heap.size + 1 := by rw [hW]; simp
  have hb2 : Below W.heap.size W (W.alloc (.cells #[.slice A n cap] 22)) := (Below.refl _ _).alloc (Nat.le_refl _) _
  have hb12 := hb1.trans (hb2.mono hb1.size)
  have ht := told_c p S b s k z w.heap.size oo 2 ⟨by omega, by omega⟩ (some ⟨W.heap.size, 0, none⟩) 1 1 [l] rfl (by omega) (by simpa using hI) (by simp; omega) (.slice none 0 0) _ (F.below hb12 F.le) (G.below hb12 hsl) F.le hsl (Blk.below hC hb2 (by omega)) (tb_lit1 (hs.below hb1) hn (by omega) hI)
  rw [show [l].flatten = l by simp] at ht
  rw [hWs] at ht
  have HT := Lib.hid (ht.mono fun e w' h => h.step F.max)
  have HB := Lib.hid hb12
  rw [hW] at HT HB
  clear ht hb1 hb2 hb12 hC hWs hW F G hs hn hI
  go_enter Tryz.func8, Tryz.ntmps8
  go_wp2_with fail
  refine (HT.out).mono ?_
  rintro _ w3 ⟨⟨r, rfl⟩, hc3, hg3, hn3⟩
  clear hn3
  have HC := Lib.hid hc3
  have HG3 := Lib.hid (HB.out.grown hg3 HB.out.size (fun k hk => by injection hk with hk; omega))
  clear hc3 hg3
  go_wp2
  go_ret
  exact ⟨rfl, HC.out, HG3.out⟩
set_option maxRecDepth 100000 in
set_option maxHeartbeats 4000000 in
theorem chtake_any (p S b s k z c : Nat) [NeZero p] (oo : Nat → Nat → Fin p) (D : List Int) (A : Option Addr) (n cap : Nat) (l : List Int) (hn : l.length = n) (hI : ∀ x ∈ l, I64 x) (hr : n * 8 ≤ 140737488351232) (w : World) (F : Fld w S b p) (G : Spg w s b k z oo) (hS : S ≤ c) (hsc : s < c) (hC : Chn w c s D) (hs : SL w A l) :
    Calls Tryz.prog 32 #[.pointer (some ⟨c, 0, none⟩), .slice A n cap] w fun e w' => StepIs c s (digL p k (3 :: (D ++ l))) w e w' := by
  have hm := F.max
  obtain ⟨g, cg, t, cs, h1, h2, h3, h4, h5, h6, h7, h8⟩ := hC
  have hcd : w.cell? ⟨c, 1, none⟩ = some (.slice (some ⟨g, 0, none⟩) 4 cg) := (Blk.cell h1 1).trans rfl
  have hb : Below w.heap.size w (w.alloc (.cells #[.slice (some ⟨g, 0, none⟩) 4 cg, .slice A n cap] 22)) := (Below.refl _ _).alloc (Nat.le_refl _) _
  have ht := told_c p S b s k z c oo 3 ⟨by omega, by omega⟩ (some ⟨w.heap.size, 0, none⟩) 2 2 [D, l] rfl (by omega) (by
    intro x hx
    simp at hx
    rcases hx with hx | hx
    · exact h8 x hx
    · exact hI x hx) (by simp; omega) _ _ (F.below hb F.le) (G.below hb (Nat.lt_trans hsc (Blk.lt h1))) hS hsc (Blk.below h1 hb (Blk.lt h1)) (tb_lit2 h4 h5 (by omega) h8 hs hn (by omega) hI)
  rw [show [D, l].flatten = D ++ l by simp] at ht
  have HT := Lib.hid (ht.mono fun e w' h => h.step hm)
  clear ht h1 h2 h3 h4 h5 h6 h7 h8 hb F G hs hn hI
  go_enter Tryz.func32, Tryz.ntmps32
  go_wp2_with fail
  refine (HT.out).mono ?_
  rintro _ w3 ⟨⟨r, rfl⟩, hc3, hg3, hn3⟩
  have HR := Lib.hid (show StepIs c s (digL p k (3 :: (D ++ l))) w (.returned undef) w3 from ⟨⟨_, rfl⟩, hc3, grown_alloc hg3, hn3.less (by simp)⟩)
  clear hc3 hg3 hn3
  go_wp2
  go_end0
  exact ⟨⟨_, rfl⟩, HR.out.2⟩
/-- a chain told its digest -/
def drawnL (p k : Nat) [NeZero p] (D : List Int) : List Int := digL p k (4 :: D)
def DrawIs {p : Nat} [NeZero p] (k c s : Nat) (D : List Int) (w : World) (e : Ending) (w' : World) : Prop := e = .returned (vi ((drawnL p k D).getD 0 0)) ∧ Chn w' c s (drawnL p k D) ∧ w.grownBy w' (some c) ∧ DigNew w' c w.heap.size
set_option maxRecDepth 100000 in
set_option maxHeartbeats 4000000 in
theorem chdraw_any (p S b s k z c : Nat) [NeZero p] (oo : Nat → Nat → Fin p) (D : List Int) (w : World) (F : Fld w S b p) (G : Spg w s b k z oo) (hS : S ≤ c) (hsc : s < c) (hC : Chn w c s D) :
    Calls Tryz.prog 12 #[.pointer (some ⟨c, 0, none⟩)] w fun e w' => DrawIs (p := p) k c s D w e w' := by
  have hm := F.max
  obtain ⟨g, cg, t, cs, h1, h2, h3, h4, h5, h6, h7, h8⟩ := hC
  have hcd : w.cell? ⟨c, 1, none⟩ = some (.slice (some ⟨g, 0, none⟩) 4 cg) := (Blk.cell h1 1).trans rfl
  have hb : Below w.heap.size w (w.alloc (.cells #[.slice (some ⟨g, 0, none⟩) 4 cg] 22)) := (Below.refl _ _).alloc (Nat.le_refl _) _
  have ht := told_c p S b s k z c oo 4 ⟨by omega, by omega⟩ (some ⟨w.heap.size, 0, none⟩) 1 1 [D] rfl (by omega) (by simpa using h8) (by simp; omega) _ _ (F.below hb F.le) (G.below hb (Nat.lt_trans hsc (Blk.lt h1))) hS hsc (Blk.below h1 hb (Blk.lt h1)) (tb_lit1 h4 h5 (by omega) h8)
  rw [show [D].flatten = D by simp] at ht
  have HT := Lib.hid (ht.mono fun e w' h => h.step hm)
  clear ht h1 h2 h3 h4 h5 h6 h7 h8 hb F G
  go_enter Tryz.func12, Tryz.ntmps12
  go_wp2_with fail
  refine (HT.out).mono ?_
  rintro _ w3 ⟨⟨r, rfl⟩, hc3, hg3, hn3⟩
  obtain ⟨g, cg, t, cs, h1, h2, h3, h4, h5, h6, h7, h8⟩ := id hc3
  have hcd3 : w3.cell? ⟨c, 1, none⟩ = some (.slice (some ⟨g, 0, none⟩) 4 cg) := (Blk.cell h1 1).trans rfl
  obtain ⟨X, hX⟩ : ∃ X, X = (drawnL p k D).getD 0 0 := ⟨_, rfl⟩
  have hg0 : w3.cell? ⟨g, 0, none⟩ = some (vi X) := by
    obtain ⟨ad, ea, _, hc⟩ := SL.at_ (k := 0) h4 (by rw [h5]; omega)
    injection ea with ea
    subst ea
    rw [Addr.add_mid] at hc
    rw [hX, hc]
    simp only [drawnL, List.getD, List.getElem?_eq_getElem (show 0 < (digL p k (4 :: D)).length by rw [h5]; omega), Option.getD_some]
  have HR := Lib.hid (show DrawIs (p := p) k c s D w (.returned (vi X)) w3 from ⟨by rw [hX], hc3, grown_alloc hg3, hn3.less (by simp)⟩)
  clear hc3 hg3 hn3 h1 h2 h3 h4 h5 h6 h7 h8 hX
  go_wp2
  go_ret
  exact HR.out
/-- the number below n that a digest gives -/
def placeV (p : Nat) (D : List Int) (n : Int) : Int := (D.getD 0 0 * p + D.getD 1 0) % n
theorem digL_bounds {p k : Nat} [NeZero p] (l : List Int) {j : Nat} (hj : j < 4) : ∃ x : Fin p, (digL p k l).getD j 0 = fv x := by
  refine ⟨digE p k l j, ?_⟩
  unfold digL
  simp [List.getD, hj]
end Go.Proofs.YtonalbdehcmjmaaGreat

/- Walks of package tree: right, shows, joined, elements. -/
set_option linter.unusedVariables false
namespace Go.Proofs.YtonalbdehcmjmaaGreat
open Go.RowKit Zp
def rightB (n : Int) : Bool := decide (1 ≤ n ∧ n ≤ 65536)
theorem right_any (n : Int) (w : World) : Calls Tryz.prog 57 #[vi n] w fun e w' => e = .returned (.bool (rightB n)) ∧ w = w' := by
  by_cases h1 : 1 ≤ n
  · by_cases h2 : n ≤ 65536
    · have HR := Lib.hid (show rightB n = true from decide_eq_true ⟨h1, h2⟩)
      go_enter Tryz.func57, Tryz.ntmps57
      go_wp2
      go_ret
      exact ⟨ret_bool HR.out.symm, rfl⟩
    · have HR := Lib.hid (show rightB n = false from decide_eq_false (fun h => h2 h.2))
      have t1 : decide (n ≤ 65536) = false := by simpa using h2
      go_enter Tryz.func57, Tryz.ntmps57
      go_wp2
      go_ret
      exact ⟨ret_bool HR.out.symm, rfl⟩
  · have HR := Lib.hid (show rightB n = false from decide_eq_false (fun h => h1 h.1))
    have t1 : decide (1 ≤ n) = false := by simpa using h1
    go_enter Tryz.func57, Tryz.ntmps57
    go_wp2
    go_ret
    exact ⟨ret_bool HR.out.symm, rfl⟩
set_option maxRecDepth 100000 in
set_option maxHeartbeats 2000000 in
theorem shows_any (A : Option Addr) (n c : Nat) (l : List Int) (hml : l.length = n) (hn : n ≤ 65536) (hup : Asc l) (a m : Nat) (ham : a + m ≤ 65536) (w : World) (hs : SL w A l) :
    Calls Tryz.prog 87 #[Gp a (a + m), .slice A n c] w fun e w' => e = .returned (.bool (shownB l a m)) ∧ Below w.heap.size w w' := by
  have HB := Lib.hid (shown_low hup a m)
  have hle := lowB_le (a : Int) l
  have hb1 : Below w.heap.size w (w.alloc (.cells #[vi a, vi ((a : Int) + (m : Int))] 100)) := (Below.refl _ _).alloc (Nat.le_refl _) _
  have HS := Lib.hid (bsearch_any A n c l hml (by omega) hup (a : Int) _ (hs.below hb1))
  have hs1 := hs.below hb1
  have hB := Blk.new w 100 #[vi a, vi ((a : Int) + (m : Int))]
  have e0 := (hB.cell 0).trans (show _ = some (vi a) from rfl)
  have e1 := (hB.cell 1).trans (show _ = some (vi ((a : Int) + (m : Int))) from rfl)
  have HB1 := Lib.hid hb1
  obtain ⟨i, hi⟩ : ∃ i, i = lowB l (a : Int) := ⟨_, rfl⟩
  rw [← hi] at HS HB hle
  have HI := Lib.hid hi
  rw [hml] at HB hle
  by_cases h1 : i < n
  · obtain ⟨ad, rfl, hadl, hcx⟩ := hs1.at_ (k := i) (by rw [hml]; exact h1)
    have hy2 : l.getD i 0 = l[i]'(by rw [hml]; exact h1) := by rw [List.getD, List.getElem?_eq_getElem, Option.getD_some]
    rw [hy2] at HB
    generalize l[i]'(by rw [hml]; exact h1) = y at hcx HB
    have i0 : (0 : Int) ≤ (i : Int) := by omega
    have i1 : (i : Int) < (n : Int) := by omega
    have t0 : decide (i < n) = true := by simpa using h1
    by_cases h2 : y < (a : Int) + m
    · have t1 : decide (y < (a : Int) + (m : Int)) = true := by simpa using h2
      have HR := Lib.hid (show shownB l a m = true by rw [HB.out, t0, t1]; rfl)
      clear hi hml hup hs hs1 hb1 hB hy2
      go_enter Tryz.func87, Tryz.ntmps87
      go_wp2_with fail
      refine HS.out.mono ?_
      rintro e w' ⟨⟨b, rfl⟩, rfl⟩
      go_wp2
      go_quiet (fail)
      go_wp2
      go_ret
      exact ⟨ret_bool HR.out.symm, below_drewN HB1.out _⟩
    · have t1 : decide (y < (a : Int) + (m : Int)) = false := by simpa using h2
      have HR := Lib.hid (show shownB l a m = false by rw [HB.out, t0, t1]; rfl)
      clear hi hml hup hs hs1 hb1 hB hy2
      go_enter Tryz.func87, Tryz.ntmps87
      go_wp2_with fail
      refine HS.out.mono ?_
      rintro e w' ⟨⟨b, rfl⟩, rfl⟩
      go_wp2
      go_quiet (fail)
      go_wp2
      go_ret
      exact ⟨ret_bool HR.out.symm, below_drewN HB1.out _⟩
  · have t0 : decide (i < n) = false := by simpa using h1
    have t1 : decide ((i : Int) < (n : Int)) = false := by simp; omega
    have HR := Lib.hid (show shownB l a m = false by rw [HB.out, t0]; rfl)
    clear hi hml hup hs hs1 hb1 hB
    go_enter Tryz.func87, Tryz.ntmps87
    go_wp2_with fail
    refine HS.out.mono ?_
    rintro e w' ⟨⟨b, rfl⟩, rfl⟩
    go_wp2
    go_quiet (fail)
    go_wp2
    go_ret
    exact ⟨ret_bool HR.out.symm, below_drewN HB1.out _⟩
set_option maxRecDepth 100000 in
set_option maxHeartbeats 2000000 in
theorem joined_any (first : Int) (A : Option Addr) (m cap : Nat) (ts : List (List Int)) (hm : ts.length = m) (hmm : m ≤ 1000000) (htot : ts.flatten.length * 8 + 16 ≤ 140737488355328) (w : World) (hT : TB w A ts) :
    Calls Tryz.prog 83 #[vi first, .slice A m cap] w fun e w' => Made (first :: ts.flatten) w e w' := by
  have hba : Below w.heap.size w (w.alloc (.cells #[vi first] 3)) := (Below.refl _ _).alloc (Nat.le_refl _) _
  have hcc := concat_any A m cap ts hm hmm (by omega) _ (hT.below hba)
  have ho1 : Own (w.alloc (.cells #[vi first] 3)) w.heap.size (.slice (some ⟨w.heap.size, 0, none⟩) 1 1) [first] := own_lit w w.heap.size [first] (Nat.le_refl _) (by simp [maxLen])
  obtain ⟨L, hL⟩ : ∃ L, L = ts.flatten := ⟨_, rfl⟩
  have hLl : L.length + 1 ≤ 17592186044416 := by rw [hL]; omega
  rw [← hL] at hcc ⊢
  have HCC := Lib.hid hcc
  have HO1 := Lib.hid ho1
  have HBA := Lib.hid hba
  clear hL hm hmm htot hcc hT hba ho1
  go_enter Tryz.func83, Tryz.ntmps83
  go_wp2_with fail
  refine HCC.out.mono ?_
  rintro _ w2 ⟨v2, rfl, ho2, hb2⟩
  obtain ⟨A2, n2, c2, rfl, hl2, _, _, hs2⟩ := ho2.shapeN
  have ho1' := HO1.out.below hb2
  have hsz : w.heap.size ≤ w2.heap.size := by have := hb2.size; simp at this; omega
  have HL2 := Lib.hid hl2
  have HB2 := Lib.hid (HBA.out.trans (hb2.mono (by simp)))
  rw [hl2] at hLl
  clear hl2 ho2 hb2
  go_wp2_with (at_builtin; refine wpList_appA w2 rfl _ _ rfl w.heap.size _ [first] A2 n2 c2 L rfl rfl HL2.out ho1' hs2 (by simp; omega) hsz ?_; intro v3 w3 hg3)
  go_ret
  exact ⟨v3, rfl, hg3.own, hg3.below HB2.out ho1' (Nat.le_refl _) hsz⟩
def ElemsRel (p : Nat) [NeZero p] (xs : List Int) (w : World) (v i : Value) (wr : World) : Prop := ∃ k : Nat, k ≤ xs.length ∧ i = vi k ∧ Own wr w.heap.size v ((fvs (els p xs)).take k) ∧ Below w.heap.size w wr
theorem take_fvs {p : Nat} [NeZero p] {xs : List Int} {k : Nat} (hk : k < xs.length) : (fvs (els p xs)).take (k + 1) = (fvs (els p xs)).take k ++ [fv (el p xs[k])] := by
  rw [List.take_succ_eq_append_getElem (by simpa [fvs, els] using hk)]; simp [fvs, els]
set_option maxRecDepth 100000 in
set_option maxHeartbeats 2000000 in
theorem elements_any (p b : Nat) [NeZero p] (hp2 : p ≤ 2147483647) (A : Option Addr) (n cap : Nat) (xs : List Int) (hl : xs.length = n) (hxs : ∀ n ∈ xs, I64 n) (hreach : n * 8 ≤ 140737488355328) (w : World) (hs : SL w A xs) (hc : w.cell? ⟨b, 0, none⟩ = some (vi p)) :
    Calls Tryz.prog 67 #[.pointer (some ⟨b, 0, none⟩), .slice A n cap] w fun e w' => Made (fvs (els p xs)) w e w' := by
  have hmk := make_ints0 n (by omega)
  have ho0 := own_made0 w w.heap.size n (Nat.le_refl _) (by omega)
  have hb0 : Below w.heap.size w (w.alloc (.cells (zeros n) 3)) := (Below.refl _ _).alloc (Nat.le_refl _) _
  have hbl := block_lt_of_cell hc
  have HL := Lib.hid hl
  have HO0 := Lib.hid ho0
  have HB0 := Lib.hid hb0
  clear hl ho0 hb0
  go_enter Tryz.func67, Tryz.ntmps67
  go_wp2
  go_loopw [5, 7, 13] (fun v _ i wr => ElemsRel p xs w v i wr) (fun _ _ i _ => n - (intOf i).toNat)
  case atStart => exact ⟨0, Nat.zero_le _, rfl, HO0.out, HB0.out⟩
  case round =>
    obtain ⟨k, hk, rfl, hown, hb⟩ := hrel
    rw [HL.out] at hk
    by_cases hlt : k < n
    · have hkx : k < xs.length := by rw [HL.out]; exact hlt
      obtain ⟨ad, rfl, hab, hcell⟩ := (hs.below hb).at_ hkx
      have hI := hxs _ (List.getElem_mem hkx)
      have hcr := (hb.cell (p := ⟨b, 0, none⟩) hbl).trans hc
      have hts := take_fvs (p := p) hkx
      obtain ⟨x, hx⟩ : ∃ x, x = xs[k] := ⟨_, rfl⟩
      rw [← hx] at hI hcell hts
      have HX := Lib.hid hts
      have HOF := Lib.hid (of_el p hp2 b x hI wr hcr)
      clear hx hts
      have hll : ((fvs (els p xs)).take k).length ≤ k := List.length_take_le _ _
      go_wp2_with fail
      refine HOF.out.mono ?_
      rintro e w' ⟨rfl, rfl⟩
      go_wp2_with (at_builtin; refine wpList_app1 _ (fv (el p x)) rfl _ _ rfl w.heap.size _ _ rfl rfl hown (by omega) hb.size ?_; intro v' w1 hg)
      go_roundw
      case rel => exact ⟨k + 1, by rw [HL.out]; omega, by go_num, by rw [HX.out]; exact hg.own, hg.below hb hown (Nat.le_refl _) hb.size⟩
      case measure => simp [intOf]; omega
    · obtain rfl : k = n := by omega
      go_wp2
      go_ret
      rw [List.take_of_length_le (by simp [fvs, els]; rw [HL.out]; exact Nat.le_refl _)] at hown
      exact ⟨_, rfl, hown, hb⟩
end Go.Proofs.YtonalbdehcmjmaaGreat

/- The walk of (*Domain).Values. -/
set_option linter.unusedVariables false
namespace Go.Proofs.YtonalbdehcmjmaaGreat
open Go.RowKit Zp

/-- a root of a power of two: the half of its order makes -1 -/
theorem root_cond {p : Nat} [NeZero p] (hp : IsPrime p) {n : Nat} (h : SizeOk p n) {r : Fin p} (hr : Ord r n) : n = 1 ∨ ∃ m, n = 2 * m ∧ pw r m = -1 := by
  obtain ⟨⟨k, _, e⟩, _⟩ := h
  cases k with
  | zero => exact .inl e
  | succ k =>
    have e2 : n = 2 * 2 ^ k := by rw [e, Nat.pow_succ, Nat.mul_comm]
    rw [e2] at hr
    exact .inr ⟨2 ^ k, e2, ord_half hp (Nat.pow_pos (by omega)) hr⟩

def ValRel {p : Nat} [NeZero p] (s : Fin p) (n : Nat) (xs : List Int) (w : World) (g : Nat) (sh i : Value) (wr : World) : Prop := ∃ (k : Nat) (L : List (Fin p)), k ≤ xs.length ∧ i = vi k ∧ sh = vi (fv (pw s k)) ∧ OwnE wr w.heap.size g n L ∧ Wrapped s n (els p xs) k L ∧ Below w.heap.size w wr

/-- .. in a block of ints -/
def GivesB (xs : List Int) (w : World) (e : Ending) (w' : World) : Prop := ∃ A c, e = .returned (.slice A xs.length c) ∧ xs.length ≤ c ∧ c ≤ maxLen ∧ SL w' A xs ∧ Below w.heap.size w w' ∧ ∀ ad, A = some ad → ∃ cs, Blk w' ad.block 3 cs
theorem GivesB.g {xs : List Int} {w w' : World} {e : Ending} (h : GivesB xs w e w') : Gives xs w e w' := by
  obtain ⟨A, c, h1, h2, h3, h4, h5, _⟩ := h
  exact ⟨A, c, h1, h2, h3, h4, h5⟩
theorem own_in {w : World} {base n c : Nat} {A : Option Addr} {xs : List Int} (h : Own w base (.slice A n c) xs) : ∀ ad, A = some ad → ∃ cs, Blk w ad.block 3 cs := fun ad e => by
  rcases h.2 with ⟨e1, _⟩ | ⟨g', cap, cur, e1, _, hh, _⟩
  · injection e1 with e1 _ _
    rw [e] at e1
    cases e1
  · injection e1 with e1 _ _
    rw [e] at e1
    injection e1 with e1
    subst e1
    exact ⟨cur, hh⟩
set_option maxRecDepth 100000 in
set_option maxHeartbeats 2000000 in
theorem values_blk (p S D b : Nat) [NeZero p] (n : Nat) (s : Fin p) (A : Option Addr) (cap : Nat) (xs : List Int) (hxs : ∀ x ∈ xs, I64 x) (hreach : xs.length * 8 ≤ 281474976710656) (w : World) (hD : Dom w S D b p n s) (hs : SL w A xs) :
    Calls Tryz.prog 13 #[.pointer (some ⟨D, 0, none⟩), .slice A xs.length cap] w fun e w' => GivesB (fvs (valL s (rootI p n) n (els p xs))) w e w' := by
  have hp := hD.fld.prime
  have hp1 := hD.fld.two
  have hp2 := hD.fld.max
  have hn0 := hD.size.pos
  have hn1 := hD.size.le
  have hDle := hD.le
  have hc1 := hD.c1
  obtain ⟨len, hlen⟩ : ∃ len, len = xs.length := ⟨_, rfl⟩
  rw [← hlen]
  rw [← hlen] at hreach
  have HL := Lib.hid hlen
  clear hlen
  obtain ⟨R, hR⟩ : ∃ R, R = fvs (valL s (rootI p n) n (els p xs)) := ⟨_, rfl⟩
  rw [← hR]
  have HR := Lib.hid hR
  clear hR
  have hmk := make_ints n n (Nat.le_refl _) (by omega)
  have hOE := OwnE.made (p := p) w w.heap.size n (Nat.le_refl _) (by omega)
  go_enter Tryz.func13, Tryz.ntmps13
  go_wp2
  go_loopw [6, 16] (fun sh i wr => ValRel s n xs w w.heap.size sh i wr) (fun _ i _ => len - (intOf i).toNat)
  case atStart => exact ⟨0, _, Nat.zero_le _, rfl, by rw [pw_zero, fv_one hp1], hOE, Wrapped.start s n _, (Below.refl _ _).alloc (Nat.le_refl _) _⟩
  case round =>
    obtain ⟨k, L, hk, rfl, rfl, hoe, hwr, hb⟩ := hrel
    rw [← HL.out] at hk
    have HWR := Lib.hid hwr
    clear hwr
    have hDr := hD.below hb hDle
    have hd0 := hDr.c0
    have hd1 := hDr.c1
    have hd2 := hDr.c2
    have hd3 := hDr.c3
    have hcb := hDr.fld.c0
    by_cases hlt : k < len
    · have hkx : k < xs.length := by rw [← HL.out]; exact hlt
      obtain ⟨ad, rfl, _, hcell⟩ := (hs.below hb).at_ hkx
      have hI := hxs _ (List.getElem_mem hkx)
      have hxe : co (els p xs) k = el p xs[k] := by rw [co_of_lt (by simpa using hkx)]; simp
      obtain ⟨x, hx⟩ : ∃ x, x = xs[k] := ⟨_, rfl⟩
      rw [← hx] at hI hcell hxe
      obtain ⟨j, hj⟩ : ∃ j, j = k % n := ⟨_, rfl⟩
      have hjn : j < n := by rw [hj]; exact Nat.mod_lt _ hn0
      have hst := HWR.out.step hn0 (by simpa using hkx)
      rw [← hj, hxe] at hst
      obtain ⟨X, hX⟩ : ∃ X, X = pw s k := ⟨_, rfl⟩
      rw [← hX] at hst ⊢
      obtain ⟨Y, hY⟩ : ∃ Y, Y = X * el p x := ⟨_, rfl⟩
      obtain ⟨o, ho⟩ : ∃ o, o = co L j := ⟨_, rfl⟩
      obtain ⟨U, hU⟩ : ∃ U, U = o + Y := ⟨_, rfl⟩
      rw [← hY, ← ho, ← hU] at hst
      have hol := hoe.at_ j hjn
      rw [← ho] at hol
      have hof := hoe.frozen j
      have iX : I64 (fv X) := i64_fv X hp2
      have iY : I64 (fv Y) := i64_fv Y hp2
      have io : I64 (fv o) := i64_fv o hp2
      have iS : I64 (fv s) := i64_fv s hp2
      have hmul : ∀ W : World, W.cell? ⟨b, 0, none⟩ = some (vi p) → Calls Tryz.prog 45 #[.pointer (some ⟨b, 0, none⟩), vi (fv X), vi x] W fun e w' => e = .returned (vi (fv Y)) ∧ ∃ k, w' = W.drewN k := fun W h => by
        have := mul_any p hp2 b (fv X) x iX hI W h
        rw [el_fv, ← hY] at this; exact this
      have hadd : ∀ W : World, W.cell? ⟨b, 0, none⟩ = some (vi p) → Calls Tryz.prog 44 #[.pointer (some ⟨b, 0, none⟩), vi (fv o), vi (fv Y)] W fun e w' => e = .returned (vi (fv U)) ∧ ∃ k, w' = W.drewN k := fun W h => by
        have := add_any p hp2 b (fv o) (fv Y) io iY W h
        rw [el_fv, el_fv, ← hU] at this; exact this
      have hX1 : X * s = pw s (k + 1) := by rw [hX, pw_succ]
      have hnx : ∀ W : World, W.cell? ⟨b, 0, none⟩ = some (vi p) → Calls Tryz.prog 45 #[.pointer (some ⟨b, 0, none⟩), vi (fv X), vi (fv s)] W fun e w' => e = .returned (vi (fv (pw s (k + 1)))) ∧ ∃ k, w' = W.drewN k := fun W h => by
        have := mul_any p hp2 b (fv X) (fv s) iX iS W h
        rw [el_fv, el_fv, hX1] at this; exact this
      have HMUL := Lib.hid hmul
      have HADD := Lib.hid hadd
      have HNX := Lib.hid hnx
      have HST := Lib.hid hst
      have et : (k : Int).tmod n = (j : Int) := by rw [Int.tmod_eq_emod_of_nonneg (by omega), hj, Int.natCast_emod]
      have hn0' : ¬ n = 0 := by omega
      have i1 : (0 : Int) ≤ j := by omega
      have i2 : (j : Int) < n := by omega
      have hne1 : ¬ D = w.heap.size := by have := hD.lt; omega
      have hne2 : ¬ b = w.heap.size := by have := hD.fld.lt; omega
      clear hmul hadd hnx hst hX1 hU ho hY hX hj hx hxe
      have hmx : Tryz.prog.follows .mixedOrders = true := by kernel_rfl
      go_wp2
      refine wp_region_quiet_tail 29 hmx (by kernel_rfl) ?_
      simp only [List.take_succ_cons, List.take_zero, List.drop_succ_cons, List.drop_zero]
      repeat (quiet_step (first | (go_at_call 45; exact Calls.quiet_of (HMUL.out _ (by exact hcb))) | (go_at_call 44; exact Calls.quiet_of (HADD.out _ (by exact hcb)))))
      refine wpQuiet_nil ?_
      intro _ hw'
      obtain ⟨nq1, hw''⟩ := hw'
      subst hw''
      clear et i1 i2
      go_wp2
      go_quiet ((go_at_call 45; exact Calls.quiet_of (HNX.out _ (by exact setCell_keep hcb hne2))))
      go_wp2
      go_roundw
      case rel =>
        have h1 : OwnE (wr.drewN nq1) w.heap.size w.heap.size n L := hoe
        exact ⟨k + 1, L.set j U, by rw [← HL.out]; omega, by go_num, rfl, h1.store j U, HST.out, below_drewN ((below_drewN hb nq1).setCell (p := ⟨w.heap.size, j, none⟩) (Nat.le_refl _) _) _⟩
      case measure => simp [intOf]; omega
    · obtain rfl : k = len := by omega
      have hord := rootI_ord hp hn0 hD.size.2
      have hcond := root_cond hp hD.size hord
      have hdone := (show Wrapped s n (els p xs) (els p xs).length L by rw [List.length_map, ← HL.out]; exact HWR.out).done hord.one
      obtain ⟨⟨kk, hkk, hnk⟩, _⟩ := hD.size
      have hsp := spread_any p S D b n s kk hkk
      rw [← hnk] at hsp
      have hrun := hsp wr w.heap.size (.slice (some ⟨w.heap.size, 0, none⟩) n n) (fvs L) (fv (rootI p n)) (by simp [hoe.1]) (i64_fvs L hp2) (i64_fv _ hp2) (by rw [el_fv]; exact hcond) hDr hoe.2 hb.size
      have HRUN := Lib.hid hrun
      have HDONE := Lib.hid hdone
      clear hsp hrun hdone hcond hord hnk hd0 hd1 hd2 hcb
      go_wp2_with fail
      refine (HRUN.out).mono ?_
      rintro e w1 ⟨v1, ys, rfl, hown, _, hyd, hy1, hy2, hb1⟩
      rw [el_fv, els_fvs, HDONE.out] at hyd hy2
      have hys : ys = R := by
        rw [HR.out]
        by_cases h1 : n = 1
        · rw [hy1 h1, ← hyd, hy1 h1, els_fvs]
        · exact hy2 h1
      obtain ⟨A1, c1, rfl, hl1, hm1, _, hsl⟩ := hown.shape
      clear hyd hy1 hy2
      subst hys
      have hm2 : c1 ≤ 9223372036854775807 := by unfold maxLen at hm1; exact hm1
      go_wp2_with fail
      refine (clip_any A1 ys.length c1 hl1 hm2 _).mono ?_
      rintro e w2 ⟨rfl, rfl⟩
      go_wp2
      go_ret
      exact ⟨A1, ys.length, rfl, Nat.le_refl _, Nat.le_trans hl1 hm1, hsl, hb.trans (hb1.mono hb.size), own_in hown⟩
theorem values_any (p S D b : Nat) [NeZero p] (n : Nat) (s : Fin p) (A : Option Addr) (cap : Nat) (xs : List Int) (hxs : ∀ x ∈ xs, I64 x) (hreach : xs.length * 8 ≤ 281474976710656) (w : World) (hD : Dom w S D b p n s) (hs : SL w A xs) :
    Calls Tryz.prog 13 #[.pointer (some ⟨D, 0, none⟩), .slice A xs.length cap] w fun e w' => Gives (fvs (valL s (rootI p n) n (els p xs))) w e w' := (values_blk p S D b n s A cap xs hxs hreach w hD hs).mono fun _ _ h => h.g

/-- a slice of n ints that is read alone -/
def GivesN (n : Nat) (xs : List Int) (w : World) (e : Ending) (w' : World) : Prop := ∃ A c, xs.length = n ∧ e = .returned (.slice A n c) ∧ n ≤ c ∧ c ≤ maxLen ∧ SL w' A xs ∧ Below w.heap.size w w'
theorem Gives.n {xs : List Int} {w w' : World} {e : Ending} (h : Gives xs w e w') {n : Nat} (hn : xs.length = n) : GivesN n xs w e w' := by
  obtain ⟨A, c, h1, h2, h3, h4, h5⟩ := h
  subst hn
  exact ⟨A, c, rfl, h1, h2, h3, h4, h5⟩
def GivesNB (n : Nat) (xs : List Int) (w : World) (e : Ending) (w' : World) : Prop := ∃ A c, xs.length = n ∧ e = .returned (.slice A n c) ∧ n ≤ c ∧ c ≤ maxLen ∧ SL w' A xs ∧ Below w.heap.size w w' ∧ ∀ ad, A = some ad → ∃ cs, Blk w' ad.block 3 cs
theorem values_nB (p S D b : Nat) [NeZero p] (n : Nat) (s : Fin p) (A : Option Addr) (m cap : Nat) (xs : List Int) (hml : xs.length = m) (hxs : ∀ x ∈ xs, I64 x) (hreach : m * 8 ≤ 281474976710656) (w : World) (hD : Dom w S D b p n s) (hs : SL w A xs) :
    Calls Tryz.prog 13 #[.pointer (some ⟨D, 0, none⟩), .slice A m cap] w fun e w' => GivesNB n (fvs (valL s (rootI p n) n (els p xs))) w e w' := by
  subst hml
  refine (values_blk p S D b n s A cap xs hxs hreach w hD hs).mono fun _ _ h => ?_
  have hn : (fvs (valL s (rootI p n) n (els p xs))).length = n := by simp [valL_length]
  obtain ⟨A1, c1, h1, h2, h3, h4, h5, h6⟩ := h
  rw [hn] at h1 h2
  exact ⟨A1, c1, hn, h1, h2, h3, h4, h5, h6⟩
theorem SL.co {p : Nat} [NeZero p] {w : World} {A : Option Addr} {l : List (Fin p)} (h : SL w A (fvs l)) {k : Nat} (hk : k < l.length) : ∃ ad, A = some ad ∧ w.cell? (ad.add k) = some (vi (fv (co l k))) := by
  obtain ⟨ad, h1, _, h2⟩ := h.at_ (k := k) (by simpa using hk)
  exact ⟨ad, h1, by rw [h2, co_of_lt hk, List.getElem_map]⟩
end Go.Proofs.YtonalbdehcmjmaaGreat

/- Walks: bits.Len of powers of two, sums.variables. -/
set_option linter.unusedVariables false
namespace Go.Proofs.YtonalbdehcmjmaaGreat
open Go.RowKit Zp

end Go.Proofs.YtonalbdehcmjmaaGreat

/- Walks: Point, Half, fold.one, folded, Fold. -/
set_option linter.unusedVariables false
namespace Go.Proofs.YtonalbdehcmjmaaGreat
open Go.RowKit Zp

set_option maxRecDepth 100000 in
set_option maxHeartbeats 1000000 in
theorem point_any (p S D b : Nat) [NeZero p] (n : Nat) (s : Fin p) (i : Int) (hi : I64 i) (w : World) (hD : Dom w S D b p n s) :
    Calls Tryz.prog 78 #[.pointer (some ⟨D, 0, none⟩), vi i] w fun e w' => e = .returned (vi (fv (s * pw (rootI p n) (i % (n : Int)).toNat))) ∧ ∃ k, w' = w.drewN k := by
  have hp1 := hD.fld.two
  have hp2 := hD.fld.max
  have hn0 := hD.size.pos
  have hn1 := hD.size.le
  have hd0 := hD.c0
  have hd1 := hD.c1
  have hd2 := hD.c2
  have hd3 := hD.c3
  have hcb := hD.fld.c0
  obtain ⟨r, hr⟩ : ∃ r, r = rootI p n := ⟨_, rfl⟩
  rw [← hr] at hd3 ⊢
  obtain ⟨j, hj⟩ : ∃ j, j = (i % (n : Int)).toNat := ⟨_, rfl⟩
  rw [← hj]
  have ht := tmod_emod i n hn0
  have h1 := Int.emod_nonneg i (b := (n : Int)) (by omega)
  have h2 := Int.emod_lt_of_pos i (b := (n : Int)) (by omega)
  have hjI : I64 (j : Int) := ⟨by omega, by omega⟩
  have hz : zpw r (j : Int) = pw r j := by rw [zpw, if_pos (by omega), Int.toNat_natCast]
  have hpow := fun W hc => pow_any p hp1 hp2 b (fv r) j (i64_fv r hp2) hjI W hc
  rw [el_fv, hz] at hpow
  have hmul := fun W hc => mul_any p hp2 b (fv s) (fv (pw r j)) (i64_fv s hp2) (i64_fv _ hp2) W hc
  rw [el_fv, el_fv] at hmul
  have HPOW := Lib.hid hpow
  have HMUL := Lib.hid hmul
  have hn0' : ¬ n = 0 := by omega
  obtain ⟨T, hT⟩ : ∃ T, T = i.tmod n := ⟨_, rfl⟩
  have b1 : -(n : Int) < T := by rw [hT, ht]; split <;> (try split) <;> omega
  have b2 : T < n := by rw [hT, ht]; split <;> (try split) <;> omega
  have hTj : T = j ∨ (T < 0 ∧ T + n = j) := by
    rw [hT, ht]
    split
    · left; omega
    · split
      · left; omega
      · right; omega
  have et : i.tmod (n : Int) = T := hT.symm
  clear hpow hmul hz ht hj hT hr
  rcases hTj with hTj | ⟨hT0, hTj⟩
  · subst hTj
    go_enter Tryz.func78, Tryz.ntmps78
    go_wp2
    go_quiet ((first | (go_at_call 92; exact Calls.quiet_of (HPOW.out _ (by exact hcb))) | (go_at_call 45; exact Calls.quiet_of (HMUL.out _ (by exact hcb)))))
    go_wp2
    go_ret
    exact ⟨rfl, _, rfl⟩
  · go_enter Tryz.func78, Tryz.ntmps78
    go_wp2
    go_quiet ((first | (go_at_call 92; exact Calls.quiet_of (HPOW.out _ (by exact hcb))) | (go_at_call 45; exact Calls.quiet_of (HMUL.out _ (by exact hcb)))))
    go_wp2
    go_ret
    exact ⟨rfl, _, rfl⟩

set_option maxRecDepth 100000 in
set_option maxHeartbeats 2000000 in
theorem one_any (p S D b : Nat) [NeZero p] (n : Nat) (s : Fin p) (i : Nat) (hin : i < n) (x y r : Int) (hx : I64 x) (hy : I64 y) (hr : I64 r) (w : World) (hD : Dom w S D b p n s) :
    Calls Tryz.prog 59 #[.pointer (some ⟨D, 0, none⟩), vi i, vi x, vi y, vi r] w fun e w' => e = .returned (vi (fv (foldE (el p x) (el p y) (el p r) (s * pw (rootI p n) i)))) ∧ ∃ k, w' = w.drewN k := by
  have hp1 := hD.fld.two
  have hp2 := hD.fld.max
  have hn1 := hD.size.le
  have hd0 := hD.c0
  have hcb := hD.fld.c0
  have hiI : I64 (i : Int) := ⟨by omega, by omega⟩
  have hpt := fun k => point_any p S D b n s i hiI (w.drewN k) (hD.drewN k)
  have ej : ((i : Int) % (n : Int)).toNat = i := by rw [Int.emod_eq_of_lt (by omega) (by omega)]; rfl
  rw [ej] at hpt
  have HPT := Lib.hid hpt
  obtain ⟨X, hX⟩ : ∃ X, X = s * pw (rootI p n) i := ⟨_, rfl⟩
  rw [← hX] at HPT ⊢
  have h2I : I64 2 := by constructor <;> decide
  clear hpt ej hX
  go_enter Tryz.func59, Tryz.ntmps59
  go_wp2_with fail
  refine (inv_any p hp1 hp2 b 2 h2I _ hcb).mono ?_
  rintro e w' ⟨rfl, rfl⟩
  go_wp2
  have iH := i64_fv (Zp.inv (el p 2)) hp2
  go_quiet ((first | (go_at_call 44; exact Calls.quiet_of (add_any p hp2 b _ _ (by first | assumption | exact i64_fv _ hp2) (by first | assumption | exact i64_fv _ hp2) _ (by exact hcb))) | (go_at_call 45; exact Calls.quiet_of (mul_any p hp2 b _ _ (by first | assumption | exact i64_fv _ hp2) (by first | assumption | exact i64_fv _ hp2) _ (by exact hcb)))))
  go_wp2
  go_quiet ((first | (go_at_call 54; exact quiet_eq2 (sub_any p hp2 b _ _ (by first | assumption | exact i64_fv _ hp2) (by first | assumption | exact i64_fv _ hp2) _ (by exact hcb))) | (go_at_call 45; exact quiet_of2 (mul_any p hp2 b _ _ (by first | assumption | exact i64_fv _ hp2) (by first | assumption | exact i64_fv _ hp2) _ (by exact hcb))) | (go_at_call 78; exact quiet_of2 (HPT.out _)) | (go_at_call 21; exact quiet_eq2 (inv_any p hp1 hp2 b _ (by first | assumption | exact i64_fv _ hp2) _ (by exact hcb)))))
  go_wp2
  go_quiet ((first | (go_at_call 44; exact quiet_of2 (add_any p hp2 b _ _ (by first | assumption | exact i64_fv _ hp2) (by first | assumption | exact i64_fv _ hp2) _ (by exact hcb))) | (go_at_call 45; exact quiet_of2 (mul_any p hp2 b _ _ (by first | assumption | exact i64_fv _ hp2) (by first | assumption | exact i64_fv _ hp2) _ (by exact hcb)))))
  go_wp2
  go_ret
  exact ⟨ret_int (by simp only [el_fv]; rfl), _, (World.drewN_drewN _ _ _).trans (World.drewN_drewN _ _ _)⟩

theorem half_one (p S D b : Nat) [NeZero p] (s : Fin p) (w : World) (hD : Dom w S D b p 1 s) :
    Calls Tryz.prog 17 #[.pointer (some ⟨D, 0, none⟩)] w fun e w' => e = NoDom 2 ∧ w = w' := by
  have hd1 := hD.c1
  have t1 : (((1 : Nat) : Int) == 1) = true := rfl
  go_enter Tryz.func17, Tryz.ntmps17
  go_wp2
  go_ret2
  exact ⟨rfl, rfl⟩

theorem sizeOk_half {p h : Nat} (hs : SizeOk p (2 * h)) (hh : 0 < h) : SizeOk p h := by
  obtain ⟨⟨k, hk, e⟩, hd⟩ := hs
  refine ⟨?_, Nat.dvd_trans ⟨2, by omega⟩ hd⟩
  cases k with
  | zero => simp at e; omega
  | succ k =>
    refine ⟨k, by omega, ?_⟩
    rw [Nat.pow_succ] at e
    omega

set_option maxRecDepth 100000 in
set_option maxHeartbeats 1000000 in
theorem half_any (p S D b : Nat) [NeZero p] (n h : Nat) (hn : n = 2 * h) (hh : 0 < h) (s : Fin p) (w : World) (hD : Dom w S D b p n s) :
    Calls Tryz.prog 17 #[.pointer (some ⟨D, 0, none⟩)] w fun e w' => MadeDom p b h (fv (s * s)) w e w' := by
  have hp2 := hD.fld.max
  have hn1 := hD.size.le
  have hp := hD.fld.prime
  have hd0 := hD.c0
  have hd1 := hD.c1
  have hd2 := hD.c2
  have hcb := hD.fld.c0
  have hso : SizeOk p h := sizeOk_half (by rw [← hn]; exact hD.size) hh
  have hmul := fun W hc => mul_any p hp2 b (fv s) (fv s) (i64_fv s hp2) (i64_fv s hp2) W hc
  rw [el_fv] at hmul
  have hnew := fun k => dnew_ok p S b h (fv (s * s)) (i64_fv _ hp2) hso (by rw [el_fv]; exact mul_ne_zero hp hD.s0 hD.s0) (w.drewN k) (hD.fld.drewN k)
  have HMUL := Lib.hid hmul
  have HNEW := Lib.hid hnew
  have hDl : D < w.heap.size := Nat.lt_of_lt_of_le hD.lt hD.le
  have t1 : ((n : Int) == 1) = false := by rw [beq_eq_false_iff_ne]; omega
  have t2 : (n : Int).tdiv 2 = (h : Int) := by rw [Int.tdiv_eq_ediv_of_nonneg (by omega)]; omega
  have t3 : (n : Int) / 2 = (h : Int) := by omega
  have t4 : IntKind.i64.wrap (h : Int) = (h : Int) := IntWalk.i64_in _ (by constructor <;> omega)
  clear hmul hnew hn hso
  go_enter Tryz.func17, Tryz.ntmps17
  go_wp2
  go_region_held3 (fun w' => w'.cell? ⟨D, 0, none⟩ = some (.pointer (some ⟨b, 0, none⟩)) ∧ w'.cell? ⟨D, 1, none⟩ = some (vi n) ∧ w'.cell? ⟨D, 2, none⟩ = some (vi (fv s))) (first | exact ⟨hd0, hd1, hd2⟩ | exact ⟨(hb2.cell (p := ⟨D, 0, none⟩) hDl).trans hd0, (hb2.cell (p := ⟨D, 1, none⟩) hDl).trans hd1, (hb2.cell (p := ⟨D, 2, none⟩) hDl).trans hd2⟩) ((first | (go_at_call 45; refine (HMUL.out _ (by exact hcb)).mono ?_; rintro e w' ⟨rfl, k3, rfl⟩) | (go_at_call 16; refine (HNEW.out _).mono ?_; rintro e w' ⟨D2, rfl, hD2, hb2, hle2⟩)))
  go_wp2
  go_ret2
  exact ⟨D2, rfl, hD2, (below_drewN (Below.refl _ w) _).trans hb2, hle2⟩

def FoldRel {p : Nat} [NeZero p] (l : List (Fin p)) (h : Nat) (w : World) (v i : Value) (wr : World) : Prop := ∃ k g : Nat, k ≤ h ∧ i = vi k ∧ v = .slice (some ⟨g, 0, none⟩) k h ∧ Own wr w.heap.size v ((fvs l).take k) ∧ Below w.heap.size w wr

/-- append of one int within the capacity, at a step of a region that draws its order -/
theorem step_app1_fits {ops : Array Oper} {o : Oper} {a : Act} {K : Act → World → Prop} {Q : Exit → Act → World → Prop} {E : Prop} (w W : World) (n : Int) (hW : W = w.alloc (.cells #[vi n] 3)) (hgd : o.guard = none) (s x : Operand)
    (ho : o.op = .call { callee := .builtin .append, args := #[s, x], argTypes := #[22, 22] })
    (base g k cap : Nat) (xs : List Int) (hs : a.eval s = .slice (some ⟨g, 0, none⟩) k cap) (hx : a.eval x = .slice (some ⟨w.heap.size, 0, none⟩) 1 1) (hown : Own w base (.slice (some ⟨g, 0, none⟩) k cap) xs) (hk : k = xs.length) (hroom : k < cap)
    (h : ∀ w', Own w' base (.slice (some ⟨g, 0, none⟩) (k + 1) cap) (xs ++ [n]) → w.grownBy w' (some g) → K (a.put o.dst (.slice (some ⟨g, 0, none⟩) (k + 1) cap)) w') :
    if Region.wanted o (yielded ops a.tmps) = true then Oper.wp Tryz.prog o a W K Q else E := by
  have hw : Region.wanted o (yielded ops a.tmps) = true := by simp [Region.wanted, hgd]
  rw [if_pos hw]
  subst hk hW
  obtain ⟨i0, hi, hz0, hz1, hz2⟩ := info_parts info_int
  obtain ⟨w', hrun, h2, h3⟩ := run_append_fits (P := Tryz.prog) (w.alloc (.cells #[vi n] 3)) base 22 o.type 3 i0 1 Tryz.underlying22 hi hz1 g xs.length cap (xs.map vi) (hown.alloc _)
    ⟨w.heap.size, 0, none⟩ 1 1 [vi n] rfl (cell_one_new _ _ _) (by simp [Value.oneCell']) (by omega)
  unfold Oper.wp execOp
  simp only [ho, resolve, invoke, builtin, Sem.run_bind, Sem.run_pure, Result.andThen_ok, List.map_toArray, List.map_cons, List.map_nil, hs, hx, hrun]
  refine h w' ?_ (grownBy_trans (World.grownBy_alloc w _ _) h3)
  have e : (xs ++ [n]).length = xs.length + 1 := by simp
  rw [Own, e, List.map_append]
  exact h2

set_option maxRecDepth 100000 in
set_option maxHeartbeats 2000000 in
theorem folded_any (p S D b : Nat) [NeZero p] (n h : Nat) (hn : n = 2 * h) (hh : 0 < h) (s : Fin p) (A : Option Addr) (cap : Nat) (xs : List Int) (hml : xs.length = n) (hxs : ∀ x ∈ xs, I64 x) (r : Int) (hr : I64 r) (w : World) (hD : Dom w S D b p n s) (hs : SL w A xs) :
    Calls Tryz.prog 33 #[.pointer (some ⟨D, 0, none⟩), .slice A n cap, vi r] w fun e w' => Made (fvs (foldL s (rootI p n) h (els p xs) (el p r))) w e w' := by
  have hp2 := hD.fld.max
  have hn1 := hD.size.le
  have hd1 := hD.c1
  have hmk := make_ints0 h (by omega)
  have hone := fun (i : Nat) (hi : i < n) (x y : Int) (hx : I64 x) (hy : I64 y) (W : World) hDW => one_any p S D b n s i hi x y r hx hy hr W hDW
  have HONE := Lib.hid hone
  have hDle := hD.le
  have HML := Lib.hid hml
  have HN := Lib.hid hn
  have hhn : h < n := by omega
  obtain ⟨l, hl⟩ : ∃ l, l = foldL s (rootI p n) h (els p xs) (el p r) := ⟨_, rfl⟩
  rw [← hl]
  have hll : l.length = h := by rw [hl, foldL_length]
  have HLL := Lib.hid hll
  have HL := Lib.hid hl
  have t2 : (n : Int).tdiv 2 = (h : Int) := by rw [Int.tdiv_eq_ediv_of_nonneg (by omega)]; omega
  have t3 : (n : Int) / 2 = (h : Int) := by omega
  clear hone hml hn hl hll
  go_enter Tryz.func33, Tryz.ntmps33
  go_wp2_with fail
  refine (size_any D n _ hd1).mono ?_
  rintro e w' ⟨rfl, rfl⟩
  go_wp2
  clear t2 t3
  go_loopw [8, 16] (fun v i wr => FoldRel l h w v i wr) (fun _ i _ => h - (intOf i).toNat)
  case atStart => exact ⟨0, w.heap.size, Nat.zero_le _, rfl, rfl, own_made0 w _ h (Nat.le_refl _) (by omega), (Below.refl _ _).alloc (Nat.le_refl _) _⟩
  case round =>
    obtain ⟨k, g, hk, rfl, rfl, hown, hb⟩ := hrel
    have hDr := hD.below hb hDle
    by_cases hkh : k < h
    · have hsw := hs.below hb
      have hkx : k < xs.length := by rw [HML.out]; omega
      have hkx2 : k + h < xs.length := by rw [HML.out, HN.out]; omega
      obtain ⟨ad, rfl, _, hc1⟩ := hsw.at_ hkx
      obtain ⟨ad', he, _, hc2⟩ := hsw.at_ hkx2
      injection he with he
      subst he
      obtain ⟨ad2, he2, hab, _⟩ := hs.at_ hkx
      injection he2 with he2
      subst he2
      have hgl := (hown.lt g rfl).1
      have hk1 : some (ad.add k).block ≠ some g := by rw [block_of_add]; intro e; injection e with e; omega
      have hk2 : some (ad.add (k + h)).block ≠ some g := by rw [block_of_add]; intro e; injection e with e; omega
      have ix := hxs _ (List.getElem_mem hkx)
      have iy := hxs _ (List.getElem_mem hkx2)
      have hcx : co (els p xs) k = el p xs[k] := by rw [co_of_lt (by simpa using hkx)]; simp
      have hcy : co (els p xs) (k + h) = el p xs[k + h] := by rw [co_of_lt (by simpa using hkx2)]; simp
      have h2 := map_take_succ fv l k (by rw [HLL.out]; exact hkh)
      have h3 : l[k]'(by rw [HLL.out]; exact hkh) = foldE (co (els p xs) k) (co (els p xs) (k + h)) (el p r) (s * pw (rootI p n) k) := by
        rw [← co_of_lt (by rw [HLL.out]; exact hkh), HL.out, foldL, co_tab, if_pos hkh]
      obtain ⟨x, hx⟩ : ∃ x, x = xs[k] := ⟨_, rfl⟩
      obtain ⟨y, hy⟩ : ∃ y, y = xs[k + h] := ⟨_, rfl⟩
      rw [← hx] at hc1 ix hcx
      rw [← hy] at hc2 iy hcy
      rw [h3, hcx, hcy] at h2
      have h1 := fun W hDW => HONE.out k (by omega) x y ix iy W hDW
      obtain ⟨Z, hZ⟩ : ∃ Z, Z = foldE (el p x) (el p y) (el p r) (s * pw (rootI p n) k) := ⟨_, rfl⟩
      rw [← hZ] at h1 h2
      have hlk : ((fvs l).take k).length = k := by rw [List.length_take, List.length_map, HLL.out]; omega
      have H1 := Lib.hid h1
      have H2 := Lib.hid h2
      have HLK := Lib.hid hlk
      have i1 : (0 : Int) ≤ k := by omega
      have i2 : (k : Int) < n := by omega
      have i3 : (0 : Int) ≤ (k : Int) + h := by omega
      have i4 : (k : Int) + h < n := by have := HN.out; omega
      have i5 : ((k : Int) + h).toNat = k + h := by omega
      have i6 : IntKind.i64.wrap ((k : Int) + h) = (k : Int) + h := IntWalk.i64_in _ (by constructor <;> omega)
      clear h1 h2 h3 hx hy hcx hcy hZ hlk
      go_wp2
      go_region_held3 (fun w' => w'.cell? (ad.add k) = some (vi x) ∧ w'.cell? (ad.add (k + h)) = some (vi y)) (first | exact ⟨hc1, hc2⟩ | go_keep | exact ⟨hg.cell hc1 hk1, hg.cell hc2 hk2⟩) ((first | (go_at_call 59; refine (H1.out _ (hDr.drewN _)).mono ?_; rintro e w' ⟨rfl, k3, rfl⟩) | (refine step_app1_fits _ _ (fv Z) (by rfl) (by rfl) _ _ (by rfl) w.heap.size g k h _ (by rfl) (by rfl) (hown.drewN _) HLK.out.symm hkh ?_; intro w1 hown1 hg)))
      go_wp2
      go_roundw
      case rel => exact ⟨k + 1, g, by omega, by go_num, rfl, by rw [← H2.out]; exact hown1, (below_drewN hb _).grown hg hb.size (fun j hj => by injection hj with hj; subst hj; exact hgl)⟩
      case measure => simp [intOf]; omega
    · obtain rfl : k = h := by omega
      go_wp2
      go_ret
      rw [List.take_of_length_le (by rw [List.length_map, HLL.out]; exact Nat.le_refl _)] at hown
      exact ⟨_, rfl, hown, hb⟩

/-- a word of the call's own, and no error -/
def MadeE (xs : List Int) (w : World) (e : Ending) (w' : World) : Prop := ∃ v, e = .returned (.tuple #[v, .nilIface]) ∧ Own w' w.heap.size v xs ∧ Below w.heap.size w w'
theorem fold_any (p S D b : Nat) [NeZero p] (n h : Nat) (hn : n = 2 * h) (hh : 0 < h) (s : Fin p) (A : Option Addr) (cap : Nat) (xs : List Int) (hml : xs.length = n) (hxs : ∀ x ∈ xs, I64 x) (r : Int) (hr : I64 r) (w : World) (hD : Dom w S D b p n s) (hs : SL w A xs) :
    Calls Tryz.prog 14 #[.pointer (some ⟨D, 0, none⟩), .slice A n cap, vi r] w fun e w' => MadeE (fvs (foldL s (rootI p n) h (els p xs) (el p r))) w e w' := by
  have hsz := size_any D n w hD.c1
  have HSZ := Lib.hid hsz
  have hf := folded_any p S D b n h hn hh s A cap xs hml hxs r hr w hD hs
  have HF := Lib.hid hf
  have t1 : ((n : Int) == 1) = false := by rw [beq_eq_false_iff_ne]; omega
  have t2 : ((n : Int) != (n : Int)) = false := by simp
  clear hsz hf hml hn
  go_enter Tryz.func14, Tryz.ntmps14
  go_wp2_with fail
  refine (HSZ.out).mono ?_
  rintro e w' ⟨rfl, rfl⟩
  go_wp2_with fail
  refine (HSZ.out).mono ?_
  rintro e w' ⟨rfl, rfl⟩
  go_wp2_with fail
  refine (HF.out).mono ?_
  rintro e w1 ⟨v, rfl, hown, hb⟩
  go_wp2
  go_ret2
  exact ⟨v, rfl, hown, hb⟩
end Go.Proofs.YtonalbdehcmjmaaGreat

/- Walks: sums.fixed, Fix, Extend. -/
set_option linter.unusedVariables false
namespace Go.Proofs.YtonalbdehcmjmaaGreat
open Go.RowKit Zp

end Go.Proofs.YtonalbdehcmjmaaGreat

/- Walks: code.may, Encode, Distance. -/
set_option linter.unusedVariables false
namespace Go.Proofs.YtonalbdehcmjmaaGreat
open Go.RowKit Zp

/-- may k be? A Bool behind a name -/
def mayB (n : Nat) (k : Int) : Bool := decide (1 ≤ k ∧ k ≤ n)
theorem mayB_true {n : Nat} {k : Int} (h : 1 ≤ k ∧ k ≤ n) : mayB n k = true := decide_eq_true h
theorem mayB_false {n : Nat} {k : Int} (h : ¬ (1 ≤ k ∧ k ≤ n)) : mayB n k = false := decide_eq_false h
theorem may_any (D n : Nat) (k : Int) (w : World) (hc : w.cell? ⟨D, 1, none⟩ = some (vi n)) :
    Calls Tryz.prog 23 #[.pointer (some ⟨D, 0, none⟩), vi k] w fun e w' => e = .returned (.bool (mayB n k)) ∧ w = w' := by
  by_cases h1 : 1 ≤ k
  · by_cases h2 : k ≤ n
    · have h := mayB_true ⟨h1, h2⟩
      have H := Lib.hid h
      clear h
      go_enter Tryz.func23, Tryz.ntmps23
      go_wp2_with (go_at_call 28; refine (size_any D n _ hc).mono ?_; rintro e w' ⟨rfl, rfl⟩)
      go_ret
      exact ⟨ret_bool H.out.symm, rfl⟩
    · have t2 : decide (k ≤ (n : Int)) = false := by simpa using h2
      have h := mayB_false (n := n) (k := k) (fun h => h2 h.2)
      have H := Lib.hid h
      clear h
      go_enter Tryz.func23, Tryz.ntmps23
      go_wp2_with (go_at_call 28; refine (size_any D n _ hc).mono ?_; rintro e w' ⟨rfl, rfl⟩)
      go_ret
      exact ⟨ret_bool H.out.symm, rfl⟩
  · have t1 : decide (1 ≤ k) = false := by simpa using h1
    have h := mayB_false (n := n) (k := k) (fun h => h1 h.1)
    have H := Lib.hid h
    clear h
    go_enter Tryz.func23, Tryz.ntmps23
    go_wp2
    go_ret
    exact ⟨ret_bool H.out.symm, rfl⟩

abbrev NoWord (k : Int) : Ending := .returned (.tuple #[.slice none 0 0, .iface 55 (.int .i64 k)])
theorem encode_range (D n : Nat) (k : Int) (h : ¬ (1 ≤ k ∧ k ≤ n)) (v : Value) (w : World) (hc : w.cell? ⟨D, 1, none⟩ = some (vi n)) :
    Calls Tryz.prog 7 #[.pointer (some ⟨D, 0, none⟩), vi k, v] w fun e w' => e = NoWord 3 ∧ w = w' := by
  have hm := may_any D n k w hc
  rw [mayB_false h] at hm
  have HM := Lib.hid hm
  clear hm h
  go_enter Tryz.func7, Tryz.ntmps7
  go_wp2_with fail
  refine (HM.out).mono ?_
  rintro e w' ⟨rfl, rfl⟩
  go_wp2
  go_ret2
  exact ⟨rfl, rfl⟩

theorem encode_size (p S D b : Nat) [NeZero p] (n : Nat) (s : Fin p) (k : Int) (h : 1 ≤ k ∧ k ≤ n) (A : Option Addr) (m cap : Nat) (xs : List Int) (hml : xs.length = m) (hxs : ∀ x ∈ xs, I64 x) (hreach : m * 8 ≤ 281474976710656) (w : World) (hD : Dom w S D b p n s) (hs : SL w A xs) (hd : k ≤ degL (els p xs)) :
    Calls Tryz.prog 7 #[.pointer (some ⟨D, 0, none⟩), vi k, .slice A m cap] w fun e w' => e = NoWord 2 ∧ w = w' := by
  have hm := may_any D n k w hD.c1
  rw [mayB_true h] at hm
  have HM := Lib.hid hm
  subst hml
  have hdg := degree_any p hD.fld.max b A cap xs hxs hreach w hD.fld.c0 hs
  obtain ⟨d, hdd⟩ : ∃ d, d = degL (els p xs) := ⟨_, rfl⟩
  rw [← hdd] at hd hdg
  have HDG := Lib.hid hdg
  have hc0 := hD.c0
  clear hm h hdd hdg
  go_enter Tryz.func7, Tryz.ntmps7
  go_wp2_with fail
  refine (HM.out).mono ?_
  rintro e w' ⟨rfl, rfl⟩
  go_wp2_with fail
  refine (dfield_any D b _ hc0).mono ?_
  rintro e w' ⟨rfl, rfl⟩
  go_wp2_with fail
  refine (HDG.out).mono ?_
  rintro e w' ⟨rfl, rfl⟩
  go_wp2
  go_ret2
  exact ⟨rfl, rfl⟩

/-- a word of n elements, and no error -/
def Word (n : Nat) (xs : List Int) (w : World) (e : Ending) (w' : World) : Prop := ∃ A c, xs.length = n ∧ e = .returned (.tuple #[.slice A n c, .nilIface]) ∧ n ≤ c ∧ c ≤ maxLen ∧ SL w' A xs ∧ Below w.heap.size w w'
/-- .. in a block of ints -/
def WordB (n : Nat) (xs : List Int) (w : World) (e : Ending) (w' : World) : Prop := ∃ A c, xs.length = n ∧ e = .returned (.tuple #[.slice A n c, .nilIface]) ∧ n ≤ c ∧ c ≤ maxLen ∧ SL w' A xs ∧ Below w.heap.size w w' ∧ ∀ ad, A = some ad → ∃ cs, Blk w' ad.block 3 cs
theorem encode_blk (p S D b : Nat) [NeZero p] (n : Nat) (s : Fin p) (k : Int) (h : 1 ≤ k ∧ k ≤ n) (A : Option Addr) (m cap : Nat) (xs : List Int) (hml : xs.length = m) (hxs : ∀ x ∈ xs, I64 x) (hreach : m * 8 ≤ 281474976710656) (w : World) (hD : Dom w S D b p n s) (hs : SL w A xs) (hd : degL (els p xs) < k) :
    Calls Tryz.prog 7 #[.pointer (some ⟨D, 0, none⟩), vi k, .slice A m cap] w fun e w' => WordB n (fvs (valL s (rootI p n) n (els p xs))) w e w' := by
  have hm := may_any D n k w hD.c1
  rw [mayB_true h] at hm
  have HM := Lib.hid hm
  have hv := values_nB p S D b n s A m cap xs hml hxs hreach w hD hs
  have HV := Lib.hid hv
  have hdg := degree_any p hD.fld.max b A cap xs hxs (by rw [hml]; exact hreach) w hD.fld.c0 hs
  rw [hml] at hdg
  obtain ⟨d, hdd⟩ : ∃ d, d = degL (els p xs) := ⟨_, rfl⟩
  rw [← hdd] at hd hdg
  have HDG := Lib.hid hdg
  have hc0 := hD.c0
  clear hm h hdd hdg hv hml
  go_enter Tryz.func7, Tryz.ntmps7
  go_wp2_with fail
  refine (HM.out).mono ?_
  rintro e w' ⟨rfl, rfl⟩
  go_wp2_with fail
  refine (dfield_any D b _ hc0).mono ?_
  rintro e w' ⟨rfl, rfl⟩
  go_wp2_with fail
  refine (HDG.out).mono ?_
  rintro e w' ⟨rfl, rfl⟩
  go_wp2_with fail
  refine (HV.out).mono ?_
  rintro e w1 ⟨A1, c1, h1, rfl, h2, h3, h4, h5, h6⟩
  go_wp2
  go_ret2
  exact ⟨A1, c1, h1, rfl, h2, h3, h4, h5, h6⟩
theorem encode_any (p S D b : Nat) [NeZero p] (n : Nat) (s : Fin p) (k : Int) (h : 1 ≤ k ∧ k ≤ n) (A : Option Addr) (m cap : Nat) (xs : List Int) (hml : xs.length = m) (hxs : ∀ x ∈ xs, I64 x) (hreach : m * 8 ≤ 281474976710656) (w : World) (hD : Dom w S D b p n s) (hs : SL w A xs) (hd : degL (els p xs) < k) :
    Calls Tryz.prog 7 #[.pointer (some ⟨D, 0, none⟩), vi k, .slice A m cap] w fun e w' => Word n (fvs (valL s (rootI p n) n (els p xs))) w e w' := by
  refine (encode_blk p S D b n s k h A m cap xs hml hxs hreach w hD hs hd).mono fun _ _ g => ?_
  obtain ⟨A1, c1, h1, h2, h3, h4, h5, h6, _⟩ := g
  exact ⟨A1, c1, h1, h2, h3, h4, h5, h6⟩
/-- whatever Encode answers -/
def EncOut (p n : Nat) [NeZero p] (s : Fin p) (k : Int) (xs : List Int) (w : World) (e : Ending) (w' : World) : Prop :=
  (¬ ((1 ≤ k ∧ k ≤ n) ∧ degL (els p xs) < k) ∧ (e = NoWord 3 ∨ e = NoWord 2) ∧ w = w') ∨ (((1 ≤ k ∧ k ≤ n) ∧ degL (els p xs) < k) ∧ Word n (fvs (valL s (rootI p n) n (els p xs))) w e w')
theorem encode_all (p S D b : Nat) [NeZero p] (n : Nat) (s : Fin p) (k : Int) (A : Option Addr) (m cap : Nat) (xs : List Int) (hml : xs.length = m) (hxs : ∀ x ∈ xs, I64 x) (hreach : m * 8 ≤ 281474976710656) (w : World) (hD : Dom w S D b p n s) (hs : SL w A xs) :
    Calls Tryz.prog 7 #[.pointer (some ⟨D, 0, none⟩), vi k, .slice A m cap] w fun e w' => EncOut p n s k xs w e w' := by
  by_cases h1 : 1 ≤ k ∧ k ≤ n
  · by_cases h2 : degL (els p xs) < k
    · exact (encode_any p S D b n s k h1 A m cap xs hml hxs hreach w hD hs h2).mono fun e w' h => .inr ⟨⟨h1, h2⟩, h⟩
    · exact (encode_size p S D b n s k h1 A m cap xs hml hxs hreach w hD hs (by omega)).mono fun e w' ⟨h, h'⟩ => .inl ⟨fun h => h2 h.2, .inr h, h'⟩
  · exact (encode_range D n k h1 _ w hD.c1).mono fun e w' ⟨h, h'⟩ => .inl ⟨fun h => h1 h.1, .inl h, h'⟩

end Go.Proofs.YtonalbdehcmjmaaGreat

/- Walk: sums.Extend. -/
set_option linter.unusedVariables false
namespace Go.Proofs.YtonalbdehcmjmaaGreat
open Go.RowKit Zp

end Go.Proofs.YtonalbdehcmjmaaGreat

/- Tables in memory; walks: sums.total. -/
set_option linter.unusedVariables false
namespace Go.Proofs.YtonalbdehcmjmaaGreat
open Go.RowKit Zp

end Go.Proofs.YtonalbdehcmjmaaGreat

/- Plain facts: the round's polynomial of a sum; what is not true is caught. No program is in sight but for the words of the tables. -/
set_option linter.unusedVariables false
namespace Go.Proofs.YtonalbdehcmjmaaGreat
open Zp
section ct
variable {p : Nat} [NeZero p]

end ct
end Go.Proofs.YtonalbdehcmjmaaGreat

/- A slice of ints that came in. -/
set_option linter.unusedVariables false
namespace Go.Proofs.YtonalbdehcmjmaaGreat
open Go.RowKit

/-- '.slice A n c' came in and reads as xs -/
structure ArgS (w : World) (A : Option Addr) (n c : Nat) (xs : List Int) : Prop where
  len : xs.length = n
  cap : n ≤ c
  i64 : ∀ x ∈ xs, I64 x
  reach : c * 8 ≤ 140737488351232
  sl : SL w A xs

theorem ArgS.nil (w : World) : ArgS w none 0 0 [] := ⟨rfl, Nat.le_refl _, by simp, by omega, SL.nil⟩
theorem i64_of_wf {n : Int} (h : (Lit.int .i64 n).wf = true) : I64 n := by
  simpa [Lit.wf, IntKind.min, IntKind.max, IntKind.signed, IntKind.bits] using h

theorem ArgS.mk_ {w : World} {a : Addr} {len cap : Nat} {zs : List Int} (hl : len ≤ cap) (hm : cap ≤ maxLen) (hz : zs.length = cap) (lt : ∀ q ∈ MemPlace.row a zs.length, q.block < w.heap.size)
    (hcell : ∀ i, i < zs.length → w.cell? (a.add i) = some (.int .i64 (zs.getD i 0))) (hwz : ∀ n ∈ zs, (Lit.int .i64 n).wf = true) (hb : cap * 8 ≤ 140737488351232) : ArgS w (some a) len cap (zs.take len) := by
  have hlen : (zs.take len).length = len := by rw [List.length_take, hz]; omega
  refine ⟨hlen, hl, fun x hx => i64_of_wf (hwz x (List.mem_of_mem_take hx)), hb, ?_⟩
  refine ⟨by simp, fun hn => ⟨a, rfl, ?_, fun j u hu => ?_⟩⟩
  · have h0 : 0 < zs.length := by rw [hlen] at hn; omega
    have hc0 := hcell 0 h0
    have : (a.add 0).block < w.heap.size := by
      false_or_by_contra
      rename_i hge
      rw [World.cell?, Array.getElem?_eq_none (by omega)] at hc0
      cases hc0
    rwa [block_of_add] at this
  · rw [List.getElem?_map] at hu
    cases hj : (zs.take len)[j]? with
    | none => rw [hj] at hu; cases hu
    | some x =>
      rw [hj] at hu
      injection hu with hu
      rw [List.getElem?_take] at hj
      split at hj
      · have hjl : j < zs.length := (List.getElem?_eq_some_iff.1 hj).1
        rw [hcell j hjl, ← hu]
        simp [List.getD_eq_getElem?_getD, hj]
      · cases hj

section
variable {w w' : World} {A : Option Addr} {n c : Nat} {xs : List Int}
theorem ArgS.below (h : ArgS w A n c xs) (hb : Below w.heap.size w w') : ArgS w' A n c xs := ⟨h.len, h.cap, h.i64, h.reach, h.sl.below hb⟩
theorem ArgS.r8 (h : ArgS w A n c xs) : xs.length * 8 ≤ 140737488351232 := by
  have := h.reach
  have := h.cap
  have := h.len
  omega
end
end Go.Proofs.YtonalbdehcmjmaaGreat

/- Own slices of slices of ints: append of one; how they read; slices of slices of ints that came in. -/
set_option linter.unusedVariables false
namespace Go.Proofs.YtonalbdehcmjmaaGreat
open Go.RowKit

theorem info_ints : (Tryz.prog.info? 22).map (fun i => (i.zero, i.size, i.bytes)) = some (some (.slice none 0 0), 1, 24) := by kernel_rfl

/-- the call's own slice of slices of ints -/
abbrev OwnR (w : World) (base : Nat) (v : Value) (us : List Value) : Prop := w.ownsRow base 22 1 v us.length us
/-- each is a slice of ints of the call's own -/
def RowsOwn (w : World) (base : Nat) (us : List Value) (ls : List (List Int)) : Prop := us.length = ls.length ∧ ∀ k (h : k < us.length) (h' : k < ls.length), Own w base us[k] ls[k]

theorem own_ne {w : World} {base base' : Nat} {v u : Value} {xs : List Int} {us : List Value} (h : Own w base v xs) (k : OwnR w base' u us) : v.ownBlock = none ∨ v.ownBlock ≠ u.ownBlock := by
  rcases h.2 with ⟨rfl, _⟩ | ⟨g, cap, cur, rfl, _, hg, _⟩
  · exact .inl rfl
  · refine .inr ?_
    rcases k.2 with ⟨rfl, _⟩ | ⟨g', cap', cur', rfl, _, hg', _⟩
    · intro e; cases e
    · intro e
      injection e with e
      subst e
      rw [hg] at hg'
      injection hg' with hg'
      injection hg' with _ ht
      exact absurd ht (by decide)

/-- what an append of an own row leaves -/
structure GrewR (w w' : World) (base : Nat) (v v' : Value) (us : List Value) : Prop where
  own : OwnR w' base v' us
  grown : w.grownBy w' v.ownBlock

theorem GrewR.below {w0 w w' : World} {base : Nat} {v v' : Value} {us vs : List Value} (h : GrewR w w' base v v' us) {B : Nat} (hb : Below B w0 w) (ho : OwnR w base v vs) (hB : B ≤ base) (hs : B ≤ w.heap.size) : Below B w0 w' :=
  hb.grown h.grown hs (fun k hk => Nat.le_trans hB (World.ownsRow.lt ho k hk).1)
theorem GrewR.rows {w w' : World} {base base2 : Nat} {v v' : Value} {us vs ws : List Value} {ls : List (List Int)} (h : GrewR w w' base v v' us) (ho : OwnR w base v vs) (hr : RowsOwn w base2 ws ls) : RowsOwn w' base2 ws ls :=
  ⟨hr.1, fun k h1 h2 => (hr.2 k h1 h2).grown h.grown (own_ne (hr.2 k h1 h2) ho)⟩

theorem run_appR (w : World) (base : Nat) (v : Value) (us : List Value) (A : Option Addr) (n c : Nat) (hown : OwnR w base v us) (hlen : us.length < 5864062014805) (hbase : base ≤ w.heap.size) (ty : TypeId) :
    ∃ v' w', (Builtin.append_ #[37, 37] ty #[v, .slice (some ⟨w.heap.size, 0, none⟩) 1 1]).run Tryz.prog (w.alloc (.cells #[.slice A n c] 22)) = .ok v' w' ∧ GrewR w w' base v v' (us ++ [.slice A n c]) := by
  obtain ⟨i0, hi, hz0, hz1, hz2⟩ := info_parts info_ints
  obtain ⟨v', w', hrun, h2, h3, _, h5⟩ := run_append_own_at (P := Tryz.prog) (w.alloc (.cells #[.slice A n c] 22)) base 37 ty 22 i0 _ 1 24 Tryz.underlying37 hi hz0 hz1 hz2 rfl (by omega)
    v us.length us (hown.alloc _) ⟨w.heap.size, 0, none⟩ 1 1 [.slice A n c] rfl (by
      intro j u hj
      match j, hj with
      | 0, hj => simp at hj; subst hj; simp [Addr.add]) (by simp [Value.oneCell']) (by simp only [maxLen]; omega) (by omega) (by simp; omega)
  refine ⟨v', w', hrun, ?_, grownBy_trans (World.grownBy_alloc w _ _) h3⟩
  have e : (us ++ [Value.slice A n c]).length = us.length + 1 := by simp
  rw [OwnR, e]
  exact h2

theorem RowsOwn.nil (w : World) (base : Nat) : RowsOwn w base [] [] := ⟨rfl, fun k h => absurd h (by simp)⟩
theorem RowsOwn.snoc {w : World} {base : Nat} {us : List Value} {ls : List (List Int)} {u : Value} {l : List Int} (h : RowsOwn w base us ls) (hu : Own w base u l) : RowsOwn w base (us ++ [u]) (ls ++ [l]) := by
  have hl := h.1
  refine ⟨by simp [hl], fun k h1 h2 => ?_⟩
  by_cases hk : k < us.length
  · rw [List.getElem_append_left hk, List.getElem_append_left (by omega)]
    exact h.2 k hk (by omega)
  · have e : k = us.length := by simp at h1; omega
    subst e
    rw [List.getElem_append_right (Nat.le_refl _), List.getElem_append_right (by omega)]
    simpa [hl] using hu
theorem RowsOwn.below {w w' : World} {base : Nat} {us : List Value} {ls : List (List Int)} (h : RowsOwn w base us ls) (hb : Below w.heap.size w w') : RowsOwn w' base us ls := ⟨h.1, fun k h1 h2 => (h.2 k h1 h2).below hb⟩
theorem RowsOwn.more {w : World} {base base' : Nat} {us : List Value} {ls : List (List Int)} (h : RowsOwn w base us ls) (hb : base' ≤ base) : RowsOwn w base' us ls := ⟨h.1, fun k h1 h2 => (h.2 k h1 h2).more hb⟩

/-- own rows read as tables -/
theorem tb_own {w : World} {base base2 : Nat} {A : Option Addr} {n c : Nat} {us : List Value} {ls : List (List Int)} (h : OwnR w base (.slice A n c) us) (hr : RowsOwn w base2 us ls) (hi : ∀ l ∈ ls, ∀ x ∈ l, I64 x) : TB w A ls := fun k hk => by
  have hku : k < us.length := by rw [hr.1]; exact hk
  have hn : us.length = n := by
    rcases h.2 with ⟨e, h0⟩ | ⟨g, cap, cur, e, _⟩
    · injection e with _ e2 _; omega
    · injection e with _ e2 _; exact e2.symm
  subst hn
  have hrd := Reads.of_own h
  obtain ⟨ad, u, e1, e2, e3, e4⟩ := Reads.at_ (k := k) hrd (by omega)
  have e5 : u = us[k] := by
    rw [List.getElem?_eq_getElem hku] at e3
    injection e3 with e3
    exact e3.symm
  obtain ⟨A1, n1, c1, e6, e7, e8, e9, e10⟩ := (hr.2 k hku hk).shapeN
  have hm : maxLen < 9223372036854775808 := by simp [maxLen]
  exact ⟨ad, A1, n1, c1, e1, by rw [block_of_add]; exact e2, by rw [e4, e5, e6], e7, by omega, e10, hi _ (List.getElem_mem hk)⟩
theorem ownR_shape {w : World} {base : Nat} {v : Value} {us : List Value} (h : OwnR w base v us) : ∃ A n c, v = .slice A n c ∧ us.length = n ∧ n ≤ c := by
  rcases h.2 with ⟨rfl, h0⟩ | ⟨g, cap, cur, rfl, _, _, h1, _⟩
  · exact ⟨none, 0, 0, rfl, h0, Nat.le_refl _⟩
  · exact ⟨_, _, _, rfl, rfl, h1⟩

/-- '.slice A n c' came in and reads as rows -/
structure ArgM (w : World) (A : Option Addr) (n c : Nat) (ts : List (List Int)) : Prop where
  len : ts.length = n
  cap : n ≤ c
  max : c ≤ 9223372036854775807
  tb : TB w A ts
theorem ArgM.nil (w : World) : ArgM w none 0 0 [] := ⟨rfl, Nat.le_refl _, by omega, fun k hk => absurd hk (by simp)⟩
theorem ArgM.mk_ {w : World} {a : Addr} {len cap : Nat} {A : Nat → Option Addr} {L C : Nat → Nat} {Z : Nat → List Int} (hl : len ≤ cap) (hm : cap ≤ maxLen)
    (h : ∀ r, r < cap → w.cell? (a.add r) = some (.slice (A r) (L r) (C r)) ∧ L r ≤ C r ∧ C r ≤ maxLen ∧ (Z r).length = C r ∧ (∀ n ∈ Z r, (Lit.int .i64 n).wf = true) ∧ (A r = none → C r = 0) ∧
        ∀ a', A r = some a' → 0 ≤ a'.block ∧ ∀ c, c < C r → w.cell? (a'.add c) = some (.int .i64 ((Z r).getD c 0))) :
    ArgM w (some a) len cap ((List.range len).map fun r => (Z r).take (L r)) := by
  have hmm : maxLen ≤ 9223372036854775807 := by simp [maxLen]
  refine ⟨by simp, hl, by omega, fun k hk => ?_⟩
  have hk' : k < len := by simpa using hk
  obtain ⟨h1, h2, h3, h4, h5, h6, h7⟩ := h k (by omega)
  have e : ((List.range len).map fun r => (Z r).take (L r))[k] = (Z k).take (L k) := by simp
  rw [e]
  have hlen : ((Z k).take (L k)).length = L k := by rw [List.length_take, h4]; omega
  refine ⟨a, A k, L k, C k, rfl, block_lt_of_cell h1, h1, hlen, by omega, ⟨by simp, fun hn => ?_⟩, fun x hx => i64_of_wf (h5 x (List.mem_of_mem_take hx))⟩
  rw [hlen] at hn
  cases hA : A k with
  | none => have := h6 hA; omega
  | some a' =>
    obtain ⟨_, h8⟩ := h7 a' hA
    have hc0 := h8 0 (by omega)
    refine ⟨a', rfl, ?_, fun j u hu => ?_⟩
    · have := block_lt_of_cell hc0
      rwa [block_of_add] at this
    · rw [List.getElem?_map] at hu
      cases hj : ((Z k).take (L k))[j]? with
      | none => rw [hj] at hu; cases hu
      | some x =>
        rw [hj] at hu
        injection hu with hu
        rw [List.getElem?_take] at hj
        split at hj
        · have hjl : j < (Z k).length := (List.getElem?_eq_some_iff.1 hj).1
          rw [h8 j (by omega), ← hu]
          simp [List.getD_eq_getElem?_getD, hj]
        · cases hj
end Go.Proofs.YtonalbdehcmjmaaGreat

/- Walks: sums.checked. -/
set_option linter.unusedVariables false
namespace Go.Proofs.YtonalbdehcmjmaaGreat
open Go.RowKit Zp

end Go.Proofs.YtonalbdehcmjmaaGreat

/- Walks: sums.checked, Total. -/
set_option linter.unusedVariables false
namespace Go.Proofs.YtonalbdehcmjmaaGreat
open Go.RowKit Zp

end Go.Proofs.YtonalbdehcmjmaaGreat
