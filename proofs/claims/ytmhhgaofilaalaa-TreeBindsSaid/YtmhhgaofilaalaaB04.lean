/- A bundle of texts: Rb, Hr, Hp, Rs, Hh, Tb, Lt, Cc, Ch, Rch, Tg, Rt1, Bs, Bl, Ts, Vals, Sm1, Fold, Sm2, Code, Sm3, Sm4, Ct, Arg, Rowm, Sm5, Sm6, Rl, Tr, Nd, Ne, Nf, Ng, Sz, Cp. -/
import Derived.Test.YtmhhgaofilaalaaB01
import Derived.Test.YtmhhgaofilaalaaB02
import Derived.Test.YtmhhgaofilaalaaB03
import Derived.Lib.AppendZeros
import Derived.Deep.RegionHeld3
import Derived.BigQuiet
import Derived.Deep.DeepCutAuto
import Derived.Test.YtmhhgaofilaalaaB00
import Derived.IntWalk
import Derived.WalkArith
import Derived.Lib.Walk
import Derived.Deep.LoopGhost
import Derived.Deep.Draws
import Derived.Deep.QuietTactic
import Derived.ChangeSlices
import Derived.SizedLaws
import Derived.Deep.Matrix
/- Walks of the reference's Add, Sub, Mul, Pow, Inv, Div. -/
set_option linter.unusedVariables false
namespace Go.Proofs.Ytmhhgaofilaalaa
open Go.RowKit Zp


/-- what the loop of Pow knows -/
def RPow {p : Nat} [NeZero p] (T : Fin p) (n : Int) (a x k : Value) : Prop :=
  ∃ (j : Int) (A X : Fin p), j.natAbs ≤ n.natAbs ∧ I64 j ∧ a = vi (fv A) ∧ x = vi (fv X) ∧ k = vi j ∧ X * pw A j.natAbs = T
theorem RPow.step {p : Nat} [NeZero p] {T A X : Fin p} {n j r d : Int} (h0 : j ≠ 0) (h : X * pw A j.natAbs = T) (hj : j.natAbs ≤ n.natAbs) (hr : j.tmod 2 = r) (hd : j.tdiv 2 = d) :
    d.natAbs ≤ n.natAbs ∧ d.natAbs < j.natAbs ∧ (r = 0 → X * pw (A * A) d.natAbs = T) ∧ (r ≠ 0 → X * A * pw (A * A) d.natAbs = T) := by
  have e1 : d.natAbs = j.natAbs / 2 := by rw [← hd]; simp [Int.natAbs_tdiv]; rfl
  have e2 : r.natAbs = j.natAbs % 2 := by rw [← hr]; simp [Int.natAbs_tmod]
  have hs := pow_step A j.natAbs
  rw [← e1] at hs
  refine ⟨by omega, by omega, fun hr0 => ?_, fun hr0 => ?_⟩
  · rw [← h, hs, if_neg (by omega)]; grind
  · rw [← h, hs, if_pos (by omega)]; grind

end Go.Proofs.Ytmhhgaofilaalaa

/- ref3: Power, Constant, Mix, Permute. -/
set_option linter.unusedVariables false
namespace Go.Proofs.Ytmhhgaofilaalaa
open Go.RowKit Zp

/-- no divisor from 2 to i - 1 in common -/
def NoCom (n m i : Nat) : Prop := ∀ j, 2 ≤ j → j < i → ¬ (j ∣ n ∧ j ∣ m)
theorem NoCom.step {n m i : Nat} (h : NoCom n m i) (hi : ¬ (i ∣ n ∧ i ∣ m)) : NoCom n m (i + 1) := fun j h2 hj => by
  by_cases e : j = i
  · subst e; exact hi
  · exact h j h2 (by omega)
theorem NoCom.gcd {n m : Nat} (hn : 0 < n) (h : NoCom n m (n + 1)) : Nat.gcd n m = 1 := by
  have h1 := Nat.gcd_dvd_left n m
  have h2 := Nat.gcd_dvd_right n m
  have h3 := Nat.le_of_dvd hn h1
  have h4 := Nat.gcd_pos_of_pos_left m hn
  false_or_by_contra
  rename_i hne
  exact h _ (by omega) (by omega) ⟨h1, h2⟩
theorem com_gcd {n m i : Nat} (h2 : 2 ≤ i) (h : i ∣ n ∧ i ∣ m) : Nat.gcd n m ≠ 1 := fun e => by
  have := Nat.dvd_gcd h.1 h.2
  rw [e] at this
  have := Nat.le_of_dvd (by omega) this
  omega
def comB (n m : Nat) : Bool := decide (Nat.gcd n m ≠ 1)
section
variable {p : Nat} [NeZero p] {w : World} {s b k z : Nat} {oo : Nat → Nat → Fin p}
/-- the power is below p -/
theorem Spg.klt (G : Spg w s b k z oo) (h3 : 4 ≤ p) : k < p := by
  have h1 : k ≤ p - 2 := by
    rcases Nat.lt_or_ge (p - 2) k with h | h
    · refine absurd ?_ (G.least (p - 2) (by omega) h)
      have h2 : Nat.gcd (p - 2) (p - 1) ∣ 1 := by
        have a1 := Nat.gcd_dvd_left (p - 2) (p - 1)
        have a2 := Nat.gcd_dvd_right (p - 2) (p - 1)
        have := Nat.dvd_sub a2 a1
        rwa [show p - 1 - (p - 2) = 1 by omega] at this
      exact Nat.dvd_one.1 h2
    · exact h
  omega
end
theorem set_map8 (f : Nat → Int) {i : Nat} (hi : i < 8) (y : Int) : ((List.range 8).map f).set i y = (List.range 8).map (upd f i y) := by
  apply List.ext_getElem?
  intro j
  rw [List.getElem?_set]
  by_cases hj : j < 8
  · by_cases e : i = j
    · subst e; simp [hi, upd]
    · rw [if_neg e]; simp [hj, upd]; intro h; exact absurd h.symm e
  · rw [if_neg (by omega)]
    rw [List.getElem?_eq_none (by simp; omega), List.getElem?_eq_none (by simp; omega)]
/-- a state on its way, i places of a round are over -/
def midR {p : Nat} [NeZero p] (k : Nat) (v : Nat → Fin p) (r i j : Nat) : Int := if j < i then fv (pw (permT k v r j + cstT p r j) k) else fv (permT k v r j)
theorem midR_step {p : Nat} [NeZero p] (k : Nat) (v : Nat → Fin p) (r : Nat) {i : Nat} (hi : i < 8) : ((List.range 8).map (midR k v r i)).set i (fv (pw (permT k v r i + cstT p r i) k)) = (List.range 8).map (midR k v r (i + 1)) := by
  rw [set_map8 _ hi]
  congr 1
  funext j
  unfold upd midR
  by_cases h : j = i
  · subst h; rw [if_pos rfl, if_pos (by omega)]
  · rw [if_neg h]
    by_cases h1 : j < i
    · rw [if_pos h1, if_pos (by omega)]
    · rw [if_neg h1, if_neg (by omega)]
theorem midR_done {p : Nat} [NeZero p] (k : Nat) (v : Nat → Fin p) (r : Nat) : ((List.range 8).map fun a => fv (ap (cauchy p) (fun j => el p (((List.range 8).map (midR k v r 8)).getD j 0)) a)) = (List.range 8).map fun j => fv (permT k v (r + 1) j) := by
  apply List.map_congr_left
  intro a _
  show fv (ap (cauchy p) _ a) = fv (ap (cauchy p) _ a)
  congr 1
  refine ap_congr (fun _ _ => rfl) fun j hj => ?_
  rw [getD_map8 _ hj]
  unfold midR
  rw [if_pos hj, el_fv]
theorem i64_midR {p : Nat} [NeZero p] (hm : p ≤ 2147483647) (k : Nat) (v : Nat → Fin p) (r i j : Nat) : I64 (midR k v r i j) := by
  unfold midR
  split <;> exact i64_fv _ hm
end Go.Proofs.Ytmhhgaofilaalaa

/- ref3.Pad. -/
set_option linter.unusedVariables false
namespace Go.Proofs.Ytmhhgaofilaalaa
open Go.RowKit Zp

/-- unlike lists stay unlike -/
def unpad (l : List Int) : List Int := l.reverse.dropWhile (· == 0)
theorem dropWhile_zeros (k : Nat) (t : List Int) : (List.replicate k (0 : Int) ++ 1 :: t).dropWhile (· == 0) = 1 :: t := by
  induction k with
  | zero => rfl
  | succ k ih => rw [List.replicate_succ, List.cons_append, List.dropWhile_cons_of_pos (by rfl), ih]
theorem unpad_padL (l : List Int) : unpad (padL l) = 1 :: l.reverse := by
  unfold unpad padL
  rw [List.reverse_append, List.reverse_append, List.reverse_replicate]
  exact dropWhile_zeros _ _
theorem padL_inj {l m : List Int} (h : padL l = padL m) : l = m := by
  have := congrArg unpad h
  rw [unpad_padL, unpad_padL] at this
  injection this with _ this
  exact List.reverse_inj.1 this
end Go.Proofs.Ytmhhgaofilaalaa

/- ref1.Same: are two lists the same, as elements? -/
set_option linter.unusedVariables false
namespace Go.Proofs.Ytmhhgaofilaalaa
open Go.RowKit Zp

/-- two lists, as elements -/
def sameE (p : Nat) [NeZero p] (xs ys : List Int) : Bool := eqB (fvs (els p xs)) (fvs (els p ys))
theorem fvs_els_get {p : Nat} [NeZero p] {xs : List Int} {k : Nat} (hk : k < xs.length) : (fvs (els p xs)).take (k + 1) = (fvs (els p xs)).take k ++ [fv (el p xs[k])] := by
  rw [List.take_succ_eq_append_getElem (by simpa [fvs, els] using hk)]
  simp [fvs, els]
theorem fvs_els_len {p : Nat} [NeZero p] (xs : List Int) : (fvs (els p xs)).length = xs.length := by simp [fvs, els]
def SameRel (p : Nat) [NeZero p] (xs ys : List Int) (i : Value) : Prop := ∃ k : Nat, k ≤ xs.length ∧ i = vi k ∧ (fvs (els p xs)).take k = (fvs (els p ys)).take k
set_option maxHeartbeats 2000000 in
theorem rsame_any (p : Nat) [NeZero p] (hp2 : p ≤ 2147483647) (A B : Option Addr) (n m c d : Nat) (xs ys : List Int) (hn : xs.length = n) (hm : ys.length = m) (hx : n ≤ 9223372036854775807) (hy : m ≤ 9223372036854775807) (hxI : ∀ x ∈ xs, I64 x) (hyI : ∀ y ∈ ys, I64 y) (w : World) (hsx : SL w A xs) (hsy : SL w B ys) :
    Calls Try.prog 9 #[vi p, .slice A n c, .slice B m d] w fun e w' => e = .returned (.bool (sameE p xs ys)) ∧ w = w' := by
  have HN := Lib.hid hn
  have HM := Lib.hid hm
  clear hn hm
  by_cases hnm : n = m
  · have t1 : ((n : Int) != (m : Int)) = false := by rw [bne_eq_false_iff_eq]; omega
    have HNM := Lib.hid hnm
    clear hnm
    go_enter Try.func9, Try.ntmps9
    go_wp2
    go_loop [7] (fun i => SameRel p xs ys i) (fun i => n - (intOf i).toNat)
    case atStart => exact ⟨0, Nat.zero_le _, rfl, by simp⟩
    case round =>
      obtain ⟨k, hk, rfl, heq⟩ := hrel
      rw [HN.out] at hk
      have HEQ := Lib.hid heq
      clear heq
      by_cases hlt : k < n
      · have hkm : k < m := by rw [← HNM.out]; exact hlt
        have hkx : k < xs.length := by rw [HN.out]; exact hlt
        have hky : k < ys.length := by rw [HM.out]; exact hkm
        obtain ⟨ad, rfl, _, hc1⟩ := hsx.at_ hkx
        obtain ⟨bd, rfl, _, hc2⟩ := hsy.at_ hky
        have i1 : (0 : Int) ≤ k := by omega
        have i2 : (k : Int) < n := by omega
        have i3 : (k : Int) < m := by omega
        have htk := fvs_els_get (p := p) hkx
        have hty := fvs_els_get (p := p) hky
        have iX := hxI _ (List.getElem_mem hkx)
        have iY := hyI _ (List.getElem_mem hky)
        obtain ⟨x, hxk⟩ : ∃ x, x = xs[k] := ⟨_, rfl⟩
        obtain ⟨y, hyk⟩ : ∃ y, y = ys[k] := ⟨_, rfl⟩
        rw [← hxk] at hc1 htk iX
        rw [← hyk] at hc2 hty iY
        have HX := Lib.hid (rof_any p hp2 x iX w)
        have HY := Lib.hid (rof_any p hp2 y iY w)
        by_cases hxy : el p x = el p y
        · have t2 : (fv (el p x) != fv (el p y)) = false := by rw [hxy]; simp
          have H2 := Lib.hid (show (fvs (els p xs)).take (k + 1) = (fvs (els p ys)).take (k + 1) by rw [htk, hty, HEQ.out, hxy])
          clear hxy htk hty hxk hyk iX iY
          go_wp2_with (refine (HX.out).mono ?_; rintro _ _ ⟨rfl, rfl⟩; clear HX)
          go_wp2_with (refine (HY.out).mono ?_; rintro _ _ ⟨rfl, rfl⟩; clear HY)
          go_round
          case rel => exact ⟨k + 1, by rw [HN.out]; omega, by go_num, H2.out⟩
          case measure => simp [intOf]; omega
        · have t2 : (fv (el p x) != fv (el p y)) = true := by rw [bne_iff_ne]; exact fun e => hxy (fv_inj e)
          have H2 := Lib.hid (show sameE p xs ys = false from eqB_false fun e => by
            rw [e, hty] at htk
            have := List.append_inj_right' htk rfl
            injection this with this
            exact hxy (fv_inj this.symm))
          clear hxy htk hty hxk hyk iX iY
          go_wp2_with (refine (HX.out).mono ?_; rintro _ _ ⟨rfl, rfl⟩; clear HX)
          go_wp2_with (refine (HY.out).mono ?_; rintro _ _ ⟨rfl, rfl⟩; clear HY)
          go_ret
          exact ⟨ret_bool H2.out.symm, rfl⟩
      · obtain rfl : k = n := by omega
        have H2 := Lib.hid (show sameE p xs ys = true from eqB_true (by
          have := HEQ.out
          rwa [List.take_of_length_le (by rw [fvs_els_len, HN.out]; exact Nat.le_refl _), List.take_of_length_le (by rw [fvs_els_len, HM.out, ← HNM.out]; exact Nat.le_refl _)] at this))
        go_wp2
        go_ret
        exact ⟨ret_bool H2.out.symm, rfl⟩
  · have t1 : ((n : Int) != (m : Int)) = true := by rw [bne_iff_ne]; omega
    have h2 : sameE p xs ys = false := eqB_false fun e => hnm (by rw [← HN.out, ← HM.out, ← fvs_els_len (p := p) xs, e, fvs_els_len])
    have H2 := Lib.hid h2
    clear h2 hnm
    go_enter Try.func9, Try.ntmps9
    go_wp2
    go_ret
    exact ⟨ret_bool H2.out.symm, rfl⟩
end Go.Proofs.Ytmhhgaofilaalaa

/- ref3.Hash. -/
set_option linter.unusedVariables false
namespace Go.Proofs.Ytmhhgaofilaalaa
open Go.RowKit Zp

end Go.Proofs.Ytmhhgaofilaalaa

/- Several slices of ints in memory. -/
set_option linter.unusedVariables false
namespace Go.Proofs.Ytmhhgaofilaalaa
open Go.RowKit

/-- several tables in memory -/
def TB (w : World) (A0 : Option Addr) (ts : List (List Int)) : Prop :=
  ∀ k (hk : k < ts.length), ∃ ad A n c, A0 = some ad ∧ (ad.add k).block < w.heap.size ∧ w.cell? (ad.add k) = some (.slice A n c) ∧ ts[k].length = n ∧ n < 9223372036854775808 ∧ SL w A ts[k] ∧ ∀ x ∈ ts[k], I64 x
theorem TB.below {w w' : World} {A0 : Option Addr} {ts : List (List Int)} (h : TB w A0 ts) (hb : Below w.heap.size w w') : TB w' A0 ts := fun k hk => by
  obtain ⟨ad, A, n, c, h1, h2, h3, h4, h5, h6, h7⟩ := h k hk
  exact ⟨ad, A, n, c, h1, Nat.lt_of_lt_of_le h2 hb.size, (hb.cell h2).trans h3, h4, h5, h6.below hb, h7⟩
theorem TB.drewN {w : World} {A0 : Option Addr} {ts : List (List Int)} (h : TB w A0 ts) (m : Nat) : TB (w.drewN m) A0 ts := h

end Go.Proofs.Ytmhhgaofilaalaa

/- Small facts: digests are ints; tables that are written out. -/
set_option linter.unusedVariables false
namespace Go.Proofs.Ytmhhgaofilaalaa
open Go.RowKit Zp
theorem i64_digL {p k : Nat} [NeZero p] (hm : p ≤ 2147483647) (l : List Int) : ∀ x ∈ digL p k l, I64 x := by
  intro x hx
  obtain ⟨j, _, rfl⟩ := List.mem_map.1 hx
  exact i64_fv _ hm
theorem tb_lit1 {w : World} {A : Option Addr} {n c : Nat} {xs : List Int} (h : SL w A xs) (hl : xs.length = n) (hn : n < 9223372036854775808) (hI : ∀ x ∈ xs, I64 x) :
    TB (w.alloc (.cells #[.slice A n c] 22)) (some ⟨w.heap.size, 0, none⟩) [xs] := fun k hk => by
  have e : k = 0 := by simp at hk; omega
  subst e
  exact ⟨_, A, n, c, rfl, by simp [Addr.add], by rw [Addr.add_mid]; exact ((Blk.new w 22 #[.slice A n c]).cell 0).trans rfl, hl, hn, h.below ((Below.refl _ _).alloc (Nat.le_refl _) _), hI⟩
theorem tb_lit2 {w : World} {A B : Option Addr} {n c m d : Nat} {xs ys : List Int} (h : SL w A xs) (hl : xs.length = n) (hn : n < 9223372036854775808) (hI : ∀ x ∈ xs, I64 x) (h' : SL w B ys) (hl' : ys.length = m) (hn' : m < 9223372036854775808) (hI' : ∀ x ∈ ys, I64 x) :
    TB (w.alloc (.cells #[.slice A n c, .slice B m d] 22)) (some ⟨w.heap.size, 0, none⟩) [xs, ys] := fun k hk => by
  have hb : Below w.heap.size w (w.alloc (.cells #[.slice A n c, .slice B m d] 22)) := (Below.refl _ _).alloc (Nat.le_refl _) _
  match k, hk with
  | 0, _ => exact ⟨_, A, n, c, rfl, by simp [Addr.add], by rw [Addr.add_mid]; exact ((Blk.new w 22 #[.slice A n c, .slice B m d]).cell 0).trans rfl, hl, hn, h.below hb, hI⟩
  | 1, _ => exact ⟨_, B, m, d, rfl, by simp [Addr.add], by rw [Addr.add_mid]; exact ((Blk.new w 22 #[.slice A n c, .slice B m d]).cell 1).trans rfl, hl', hn', h'.below hb, hI'⟩
end Go.Proofs.Ytmhhgaofilaalaa

/- slices.Grow of nil; slices.Concat of slices of ints. -/
set_option linter.unusedVariables false
namespace Go.Proofs.Ytmhhgaofilaalaa
open Go.RowKit

set_option maxRecDepth 100000 in
set_option maxHeartbeats 2000000 in
theorem grow_nil (n : Nat) (hn : n * 8 ≤ 140737488355328) (w : World) :
    Calls Try.prog 79 #[.slice none 0 0, vi n] w fun e w' => Made [] w e w' := by
  rcases Nat.eq_zero_or_pos n with h0 | h0
  · subst h0
    go_enter Try.func79, Try.ntmps79
    go_wp2
    go_ret
    exact ⟨_, rfl, World.ownsRow_nil _ _ _ _, Below.refl _ _⟩
  · obtain ⟨i0, hi, hz0, hz1, hz2⟩ := info_parts info_int
    have hr := Lib.run_append_nil_zeros (P := Try.prog) w 22 3 22 3 i0 (.int .i64 0) .i64 .i64 Try.underlying22 Try.underlying3 hi hz0 n h0 (by omega) (by omega) (by rw [hz2]; omega)
    obtain ⟨c, hc⟩ : ∃ c, c = grownCap w n 0 3 := ⟨_, rfl⟩
    have hcm : c ≤ maxLen := by
      have := grownCap_le_maxLen w n 0 3 (by unfold maxLen; omega)
      omega
    have hge : n ≤ c := by
      have := grownCap_ge w n 0 3
      omega
    rw [← hc] at hr
    obtain ⟨cs, hcs⟩ : ∃ cs, cs = Builtin.zeroCells (Value.int .i64 0).cells n ++ Builtin.zeroCells (Value.int .i64 0).cells (c - n) := ⟨_, rfl⟩
    rw [← hcs] at hr
    have hsz : cs.size = c := by
      rw [hcs, Array.size_append, size_zeroCells, size_zeroCells]
      simp [Value.cells]
      omega
    have ho : Own (w.drew.alloc (.cells cs 3)) w.heap.size (.slice (some ⟨w.heap.size, 0, none⟩) 0 c) [] := World.ownsRow_made w.drew cs c (Nat.le_refl _) hcm (by rw [hsz, Nat.mul_one])
    have hb : Below w.heap.size w (w.drew.alloc (.cells cs 3)) := (below_drewN (Below.refl w.heap.size w) 1).alloc (Nat.le_refl _) _
    have HO := Lib.hid ho
    have HB := Lib.hid hb
    have n1 : (0 : Int) < (n : Int) := by omega
    have n2 : (n : Int) ≤ 17592186044416 := by omega
    have n3 : 0 < n := h0
    have c1 : (c : Int) ≤ 9223372036854775807 := by unfold maxLen at hcm; omega
    clear hc hcs hsz hi hz0 hz1 hz2 ho hb hcm
    go_enter Try.func79, Try.ntmps79
    go_wp2_with (at_builtin; refine Lib.wpList_append_run _ rfl _ _ _ _ rfl _ _ rfl rfl _ _ hr ?_)
    go_ret
    exact ⟨_, rfl, HO.out, HB.out⟩
theorem flat_take {ts : List (List Int)} {k : Nat} (hk : k < ts.length) : (ts.take (k + 1)).flatten = (ts.take k).flatten ++ ts[k] := by
  rw [List.take_succ_eq_append_getElem hk, List.flatten_append]; simp
theorem flat_le (ts : List (List Int)) (k : Nat) : (ts.take k).flatten.length ≤ ts.flatten.length := by
  have h := congrArg (fun l => (List.flatten l).length) (List.take_append_drop k ts)
  simp only [List.flatten_append, List.length_append] at h
  omega
set_option maxRecDepth 100000 in
set_option maxHeartbeats 2000000 in
theorem concat_any (A : Option Addr) (m c : Nat) (ts : List (List Int)) (hm : ts.length = m) (hmm : m ≤ 1000000) (htot : ts.flatten.length * 8 ≤ 140737488355328) (w : World) (hT : TB w A ts) :
    Calls Try.prog 66 #[.slice A m c] w fun e w' => Made ts.flatten w e w' := by
  have HT := Lib.hid hT
  have HM := Lib.hid hm
  obtain ⟨N, hN⟩ : ∃ N, N = ts.flatten.length := ⟨_, rfl⟩
  have HN := Lib.hid hN
  rw [← hN] at htot
  have HG := Lib.hid (fun w => grow_nil N htot w)
  clear hT hm hN
  go_enter Try.func66, Try.ntmps66
  go_wp2
  go_loop [3, 11, 5] (fun s t _ => ∃ k : Nat, k ≤ m ∧ t = vi k ∧ s = vi ((ts.take k).flatten.length : Nat)) (fun _ t _ => m - (intOf t).toNat)
  case atStart => exact ⟨0, by omega, rfl, by simp⟩
  case round =>
    obtain ⟨k, hk, rfl, rfl⟩ := hrel
    have hle := flat_le ts k
    rw [← HN.out] at hle
    by_cases hkm : k < m
    · obtain ⟨ad, A1, n1, c1, rfl, hb1, hc1, hl1, hn1, _, _⟩ := HT.out k (by rw [HM.out]; exact hkm)
      have hft := flat_take (ts := ts) (k := k) (by rw [HM.out]; exact hkm)
      have hft2 := congrArg List.length hft
      rw [List.length_append, hl1] at hft2
      have hle2 := flat_le ts (k + 1)
      rw [← HN.out] at hle2
      obtain ⟨S, hS⟩ : ∃ S, S = (ts.take k).flatten.length := ⟨_, rfl⟩
      rw [← hS] at hft2 hle ⊢
      have k1 : (0 : Int) ≤ (k : Int) := by omega
      have k2 : (k : Int) < (m : Int) := by omega
      have s1 : (0 : Int) ≤ (S : Int) := by omega
      have s2 : (0 : Int) ≤ (S : Int) + (n1 : Int) := by omega
      have s3 : (S : Int) + (n1 : Int) ≤ 17592186044416 := by omega
      have HF := Lib.hid hft2
      clear hft hft2 hS hl1 hle2 hb1
      go_wp2
      go_round
      case rel => exact ⟨k + 1, by omega, by go_num, by rw [HF.out]; go_num⟩
      case measure => simp [intOf]; omega
    · have ek : k = m := by omega
      have hall : (ts.take k).flatten.length = N := by rw [ek, ← HM.out, List.take_length]; exact HN.out.symm
      rw [hall]
      have t1 : ¬ (k : Int) < (m : Int) := by omega
      clear ek hall hle
      go_wp2_with fail
      refine (HG.out w).mono ?_
      rintro _ w1 ⟨v, rfl, ho, hb⟩
      go_wp2
      go_loopw [6, 27, 8] (fun v t _ wr => ∃ k : Nat, k ≤ m ∧ t = vi k ∧ Own wr w.heap.size v (ts.take k).flatten ∧ Below w.heap.size w wr) (fun _ t _ _ => m - (intOf t).toNat)
      case atStart => exact ⟨0, by omega, rfl, ho, hb⟩
      case round =>
        clear ho hb
        obtain ⟨k, hk, rfl, ho, hb⟩ := hrel
        by_cases hkm : k < m
        · obtain ⟨ad, A1, n1, c1, rfl, hb1, hc1, hl1, hn1, hs1, _⟩ := HT.out k (by rw [HM.out]; exact hkm)
          have hc1r := (hb.cell (p := ad.add k) hb1).trans hc1
          have hft := flat_take (ts := ts) (k := k) (by rw [HM.out]; exact hkm)
          have hle2 := flat_le ts (k + 1)
          have hft2 := congrArg List.length hft
          rw [List.length_append, hl1] at hft2
          rw [← HN.out] at hle2
          have hlim : (ts.take k).flatten.length + n1 ≤ 17592186044416 := by omega
          have HF := Lib.hid hft
          have HL1 := Lib.hid hl1
          have HLIM := Lib.hid hlim
          have hs1r := hs1.below hb
          have k1 : (0 : Int) ≤ (k : Int) := by omega
          have k2 : (k : Int) < (m : Int) := by omega
          clear hft hft2 hle2 hlim hl1 hb1 hc1 hs1
          go_wp2_with (at_builtin; refine wpList_appA wr rfl _ _ rfl w.heap.size _ _ A1 n1 c1 _ rfl rfl HL1.out ho hs1r HLIM.out hb.size ?_; intro v' w2 hg)
          have ho2 := hg.own
          have hb2 := hg.below hb ho (Nat.le_refl _) hb.size
          rw [← HF.out] at ho2
          exact ⟨⟨k + 1, by omega, by go_num, ho2, hb2⟩, by simp [intOf]; omega⟩
        · have ek : k = m := by omega
          have hall : (ts.take k).flatten = ts.flatten := by rw [ek, ← HM.out, List.take_length]
          rw [hall] at ho
          have t1 : ¬ (k : Int) < (m : Int) := by omega
          clear ek hall
          go_wp2
          go_ret
          exact ⟨_, rfl, ho, hb⟩
end Go.Proofs.Ytmhhgaofilaalaa

/- The walks of package chain: told, New, Take, Draw, Draws, Place, Digest, Fork. -/
set_option linter.unusedVariables false
namespace Go.Proofs.Ytmhhgaofilaalaa
open Go.RowKit Zp

/-- append(v, ys...), at a step of a region that draws its order -/
theorem step_appA {ops : Array Oper} {o : Oper} {a : Act} {K : Act → World → Prop} {Q : Exit → Act → World → Prop} {E : Prop} (w : World) (hgd : o.guard = none) (s x : Operand)
    (ho : o.op = .call { callee := .builtin .append, args := #[s, x], argTypes := #[22, 22] })
    (base : Nat) (v : Value) (xs : List Int) (A : Option Addr) (m c : Nat) (ys : List Int) (hs : a.eval s = v) (hx : a.eval x = .slice A m c) (hm : ys.length = m) (hown : Own w base v xs) (hr : SL w A ys) (hlen : xs.length + m ≤ 17592186044416) (hbase : base ≤ w.heap.size)
    (h : ∀ v' w', Grew w w' base v v' (xs ++ ys) → K (a.put o.dst v') w') :
    if Region.wanted o (yielded ops a.tmps) = true then Oper.wp Try.prog o a w K Q else E := by
  have hw : Region.wanted o (yielded ops a.tmps) = true := by simp [Region.wanted, hgd]
  rw [if_pos hw]
  obtain ⟨v', w', hrun, hg⟩ := run_appA w base v xs A m c ys hm hown hr hlen hbase o.type
  unfold Oper.wp execOp
  simp only [ho, resolve, invoke, builtin, Sem.run_bind, Sem.run_pure, Result.andThen_ok, List.map_toArray, List.map_cons, List.map_nil, hs, hx, hrun]
  exact h v' w' hg
theorem firstA {w w2 : World} {x : Int} (hb2 : Below (w.alloc (.cells #[vi x] 3)).drew.heap.size (w.alloc (.cells #[vi x] 3)).drew w2) : Own w2 w.heap.size (.slice (some ⟨w.heap.size, 0, none⟩) 1 1) [x] :=
  Own.below (w := (w.alloc (.cells #[vi x] 3)).drew) (own_lit w w.heap.size [x] (Nat.le_refl _) (by simp [maxLen])) hb2
theorem firstB {w w2 : World} {x : Int} (h : w.heap.size ≤ w2.heap.size) : Own (w2.alloc (.cells #[vi x] 3)) w.heap.size (.slice (some ⟨w2.heap.size, 0, none⟩) 1 1) [x] :=
  own_lit w2 w.heap.size [x] h (by simp [maxLen])
theorem below_first (w : World) (x : Int) : Below w.heap.size w (w.alloc (.cells #[vi x] 3)).drew := below_drewN ((Below.refl _ _).alloc (Nat.le_refl _) _) 1
theorem own_blk {w : World} {base g n cap : Nat} {xs : List Int} (h : Own w base (.slice (some ⟨g, 0, none⟩) n cap) xs) : ∃ cs, Blk w g 3 cs := by
  rcases h.2 with ⟨e, _⟩ | ⟨g', cap', cur, e, _, hh, _⟩
  · cases e
  · injection e with e _ _
    injection e with e
    injection e with e _ _
    subst e
    exact ⟨cur, hh⟩
end Go.Proofs.Ytmhhgaofilaalaa

/- The walks of the reference's chains: Step, Begin, Draw, Place. -/
set_option linter.unusedVariables false
namespace Go.Proofs.Ytmhhgaofilaalaa
open Go.RowKit Zp

end Go.Proofs.Ytmhhgaofilaalaa

/- Walks of package tree: the halves of a group. -/
set_option linter.unusedVariables false
namespace Go.Proofs.Ytmhhgaofilaalaa
open Go.RowKit Zp
/-- a group of rows, from a, up to c -/
abbrev Gp (a c : Nat) : Value := .agg #[vi a, vi c]
def IsPw (M : Nat) : Prop := ∃ j : Nat, M = 2 ^ j
theorem IsPw.dbl {M : Nat} (h : IsPw M) : IsPw (2 * M) := by
  obtain ⟨j, rfl⟩ := h
  exact ⟨j + 1, by rw [Nat.pow_succ]; omega⟩
theorem IsPw.pos {M : Nat} (h : IsPw M) : 0 < M := by
  obtain ⟨j, rfl⟩ := h
  exact Nat.pow_pos (by omega)
theorem IsPw.left {M n : Nat} (h : IsPw M) (h1 : M < n) (h2 : n ≤ 2 * M) : M = leftN n := by
  obtain ⟨j, rfl⟩ := h
  exact leftN_of h1 h2
def LeftRel (n : Nat) (v : Value) : Prop := ∃ M : Nat, v = vi ((M : Nat) : Int) ∧ M < n ∧ IsPw M
set_option maxRecDepth 100000 in
set_option maxHeartbeats 2000000 in
theorem halves_any (a n : Nat) (hn1 : 2 ≤ n) (hn : a + n ≤ 65536) (w : World) :
    Calls Try.prog 22 #[Gp a (a + n)] w fun e w' => e = .returned (.tuple #[Gp a (a + leftN n), Gp (a + leftN n) (a + n)]) ∧ Below w.heap.size w w' := by
  have hbA : Below w.heap.size w (w.alloc (.cells #[vi a, vi ((a + n : Nat) : Int)] 54)) := (Below.refl _ _).alloc (Nat.le_refl _) _
  have hB := Blk.new w 54 #[vi a, vi ((a + n : Nat) : Int)]
  have e0 := (hB.cell 0).trans (show _ = some (vi a) from rfl)
  have e1 := (hB.cell 1).trans (show _ = some (vi ((a + n : Nat) : Int)) from rfl)
  go_enter Try.func22, Try.ntmps22
  go_wp2
  go_loop [4] (fun v => LeftRel n v) (fun v => n - (intOf v).toNat)
  case atStart => exact ⟨1, rfl, by omega, 0, rfl⟩
  case round =>
    obtain ⟨M, rfl, hM, hpw⟩ := hrel
    have hp := hpw.pos
    have HPW := Lib.hid hpw
    clear hpw
    by_cases h : 2 * M < n
    · go_wp2
      go_round
      case rel => exact ⟨2 * M, by go_num, h, HPW.out.dbl⟩
      case measure => simp [intOf]; omega
    · have hl : M = leftN n := HPW.out.left hM (by omega)
      have HLE := Lib.hid hl
      clear hl
      go_wp2
      go_region
      go_wp2
      refine bodyPost_ret (v := .tuple #[.agg #[vi a, vi ((a : Int) + M)], .agg #[vi ((a : Int) + M), vi ((a : Int) + n)]]) (by simp [results, Try.results22, go_sem]) rfl ⟨?_, ?_⟩
      · have he := HLE.out
        subst he
        simp [Gp]
      · exact below_drewN ((((Below.refl _ _).alloc (Nat.le_refl _) _).alloc (by simp) _).alloc (by simp; omega) _) 1
end Go.Proofs.Ytmhhgaofilaalaa

/- Walks of the reference's trees: Some, Left, Leaf, Node. -/
set_option linter.unusedVariables false
namespace Go.Proofs.Ytmhhgaofilaalaa
open Go.RowKit Zp
end Go.Proofs.Ytmhhgaofilaalaa

/- Walks: slices.BinarySearch at a list of ints that ascends. -/
set_option linter.unusedVariables false
namespace Go.Proofs.Ytmhhgaofilaalaa
open Go.RowKit Zp
set_option maxRecDepth 100000 in
theorem nan1_any (x : Int) (w : World) : Calls Try.prog 85 #[vi x] w fun e w' => e = .returned (.bool false) ∧ w = w' := by
  have t1 : (x != x) = false := by simp
  go_enter Try.func85, Try.ntmps85
  go_wp2
  go_ret
  exact ⟨rfl, rfl⟩
theorem nan2_any (x : Int) (w : World) : Calls Try.prog 78 #[vi x] w fun e w' => e = .returned (.bool false) ∧ w = w' := by
  have t1 : (x != x) = false := by simp
  go_enter Try.func78, Try.ntmps78
  go_wp2
  go_ret
  exact ⟨rfl, rfl⟩
theorem less_any (x y : Int) (w : World) : Calls Try.prog 73 #[vi x, vi y] w fun e w' => e = .returned (.bool (decide (x < y))) ∧ w = w' := by
  have H1 := Lib.hid (fun z w => nan1_any z w)
  go_enter Try.func73, Try.ntmps73
  go_wp2_with fail
  refine (H1.out _ _).mono ?_
  rintro e w' ⟨rfl, rfl⟩
  go_wp2
  go_ret
  exact ⟨rfl, rfl⟩
end Go.Proofs.Ytmhhgaofilaalaa

/- Walk: slices.BinarySearch at a list of ints that ascends. -/
set_option linter.unusedVariables false
namespace Go.Proofs.Ytmhhgaofilaalaa
open Go.RowKit Zp
theorem ret_low {i k : Nat} (h : k = i) (b : Bool) : Ending.returned (.tuple #[.int .i64 (i : Int), .bool b]) = .returned (.tuple #[vi (k : Int), .bool b]) := by rw [h]
set_option maxRecDepth 100000 in
set_option maxHeartbeats 4000000 in
theorem bsearch_any (A : Option Addr) (n c : Nat) (l : List Int) (hml : l.length = n) (hn : n ≤ 4611686018427387903) (hup : Asc l) (t : Int) (w : World) (hs : SL w A l) :
    Calls Try.prog 65 #[.slice A n c, vi t] w fun e w' => (∃ b, e = .returned (.tuple #[vi (lowB l t), .bool b])) ∧ w = w' := by
  have H1 := Lib.hid (fun x y w => less_any x y w)
  have H2 := Lib.hid (fun z w => nan2_any z w)
  have HU := Lib.hid hup
  have HM := Lib.hid hml
  have HS := Lib.hid hs
  clear hup hml hs
  go_enter Try.func65, Try.ntmps65
  go_wp2
  go_loopg [7, 8] n (fun g s7 s8 wr => ∃ lo hi : Nat, s7 = .int .i64 lo ∧ s8 = .int .i64 hi ∧ lo ≤ hi ∧ hi ≤ n ∧ hi - lo ≤ g ∧ w = wr ∧ (∀ j, j < lo → ∀ x, l[j]? = some x → x < t) ∧ (∀ j, hi ≤ j → ∀ x, l[j]? = some x → t ≤ x))
  case atStart => exact ⟨0, n, rfl, rfl, Nat.zero_le _, Nat.le_refl _, by omega, rfl, fun j hj => absurd hj (Nat.not_lt_zero _), fun j hj x hx => by rw [List.getElem?_eq_none (by rw [HM.out]; exact hj)] at hx; cases hx⟩
  case round =>
    obtain ⟨lo, hi, rfl, rfl, hlh, hin, hg, rfl, h1, h2⟩ := hrel
    have I1 := Lib.hid h1
    have I2 := Lib.hid h2
    clear h1 h2
    by_cases hlt : lo < hi
    · obtain ⟨ad, rfl, hadl, hcx⟩ := HS.out.at_ (k := (lo + hi) / 2) (by rw [HM.out]; omega)
      obtain ⟨y, hy⟩ : ∃ y, y = l[(lo + hi) / 2]'(by rw [HM.out]; omega) := ⟨_, rfl⟩
      rw [← hy] at hcx
      have hyg : l[(lo + hi) / 2]? = some y := by rw [hy, List.getElem?_eq_getElem]
      have HY := Lib.hid hyg
      clear hy hyg
      by_cases hyx : y < t
      · go_wp2_with fail
        refine (H1.out _ _ _).mono ?_
        rintro e w' ⟨rfl, rfl⟩
        go_wp2
        go_roundg (hi - ((lo + hi) / 2 + 1))
        case measure => omega
        case rel =>
          refine ⟨(lo + hi) / 2 + 1, hi, by rw [show ((lo : Int) + (hi : Int)) / 2 + 1 = (((lo + hi) / 2 + 1 : Nat) : Int) by omega], rfl, by omega, hin, Nat.le_refl _, rfl, fun j hj x hx => ?_, I2.out⟩
          have hjl : j < l.length := (List.getElem?_eq_some_iff.1 hx).1
          have hml : (lo + hi) / 2 < l.length := (List.getElem?_eq_some_iff.1 HY.out).1
          have := HU.out.at_le (i := j) (j := (lo + hi) / 2) (by omega) hml
          have e1 : l[j] = x := (List.getElem?_eq_some_iff.1 hx).2
          have e2 : l[(lo + hi) / 2] = y := (List.getElem?_eq_some_iff.1 HY.out).2
          omega
      · go_wp2_with fail
        refine (H1.out _ _ _).mono ?_
        rintro e w' ⟨rfl, rfl⟩
        go_wp2
        go_roundg ((lo + hi) / 2 - lo)
        case measure => omega
        case rel =>
          refine ⟨lo, (lo + hi) / 2, rfl, by rw [show ((lo : Int) + (hi : Int)) / 2 = (((lo + hi) / 2 : Nat) : Int) by omega], by omega, by omega, Nat.le_refl _, rfl, I1.out, fun j hj x hx => ?_⟩
          have hjl : j < l.length := (List.getElem?_eq_some_iff.1 hx).1
          have := HU.out.at_le (i := (lo + hi) / 2) (j := j) hj hjl
          have e1 : l[j] = x := (List.getElem?_eq_some_iff.1 hx).2
          have e2 : l[(lo + hi) / 2]'(by omega) = y := (List.getElem?_eq_some_iff.1 HY.out).2
          omega
    · have he : hi = lo := by omega
      subst he
      have HB := Lib.hid (lowB_of (l := l) (t := t) (i := hi) (by rw [HM.out]; exact hin) I1.out (fun x hx => I2.out hi (Nat.le_refl _) x hx))
      by_cases hn2 : hi < n
      · obtain ⟨ad, rfl, hadl, hcx⟩ := HS.out.at_ (k := hi) (by rw [HM.out]; exact hn2)
        generalize l[hi]'(by rw [HM.out]; exact hn2) = y at hcx
        by_cases hyx : y = t
        · go_wp2
          go_ret2
          exact ⟨⟨_, ret_low HB.out _⟩, rfl⟩
        · go_wp2_with (first | (refine (H2.out _ _).mono ?_; rintro e w' ⟨rfl, rfl⟩))
          go_ret2
          exact ⟨⟨_, ret_low HB.out _⟩, rfl⟩
      · go_wp2
        go_ret2
        exact ⟨⟨_, ret_low HB.out _⟩, rfl⟩
end Go.Proofs.Ytmhhgaofilaalaa

/- Walks of package tree: right, shows, joined, elements. -/
set_option linter.unusedVariables false
namespace Go.Proofs.Ytmhhgaofilaalaa
open Go.RowKit Zp
def rightB (n : Int) : Bool := decide (1 ≤ n ∧ n ≤ 65536)
theorem right_any (n : Int) (w : World) : Calls Try.prog 27 #[vi n] w fun e w' => e = .returned (.bool (rightB n)) ∧ w = w' := by
  by_cases h1 : 1 ≤ n
  · by_cases h2 : n ≤ 65536
    · have HR := Lib.hid (show rightB n = true from decide_eq_true ⟨h1, h2⟩)
      go_enter Try.func27, Try.ntmps27
      go_wp2
      go_ret
      exact ⟨ret_bool HR.out.symm, rfl⟩
    · have HR := Lib.hid (show rightB n = false from decide_eq_false (fun h => h2 h.2))
      have t1 : decide (n ≤ 65536) = false := by simpa using h2
      go_enter Try.func27, Try.ntmps27
      go_wp2
      go_ret
      exact ⟨ret_bool HR.out.symm, rfl⟩
  · have HR := Lib.hid (show rightB n = false from decide_eq_false (fun h => h1 h.1))
    have t1 : decide (1 ≤ n) = false := by simpa using h1
    go_enter Try.func27, Try.ntmps27
    go_wp2
    go_ret
    exact ⟨ret_bool HR.out.symm, rfl⟩
set_option maxRecDepth 100000 in
set_option maxHeartbeats 2000000 in
theorem shows_any (A : Option Addr) (n c : Nat) (l : List Int) (hml : l.length = n) (hn : n ≤ 65536) (hup : Asc l) (a m : Nat) (ham : a + m ≤ 65536) (w : World) (hs : SL w A l) :
    Calls Try.prog 60 #[Gp a (a + m), .slice A n c] w fun e w' => e = .returned (.bool (shownB l a m)) ∧ Below w.heap.size w w' := by
  have HB := Lib.hid (shown_low hup a m)
  have hle := lowB_le (a : Int) l
  have hb1 : Below w.heap.size w (w.alloc (.cells #[vi a, vi ((a : Int) + (m : Int))] 54)) := (Below.refl _ _).alloc (Nat.le_refl _) _
  have HS := Lib.hid (bsearch_any A n c l hml (by omega) hup (a : Int) _ (hs.below hb1))
  have hs1 := hs.below hb1
  have hB := Blk.new w 54 #[vi a, vi ((a : Int) + (m : Int))]
  have e0 := (hB.cell 0).trans (show _ = some (vi a) from rfl)
  have e1 := (hB.cell 1).trans (show _ = some (vi ((a : Int) + (m : Int))) from rfl)
  have HB1 := Lib.hid hb1
  obtain ⟨i, hi⟩ : ∃ i, i = lowB l (a : Int) := ⟨_, rfl⟩
  rw [← hi] at HS HB hle
  have HI := Lib.hid hi
  rw [hml] at HB hle
  by_cases h1 : i < n
  · obtain ⟨ad, rfl, hadl, hcx⟩ := hs1.at_ (k := i) (by rw [hml]; exact h1)
    have hy2 : l.getD i 0 = l[i]'(by rw [hml]; exact h1) := by rw [List.getD, List.getElem?_eq_getElem, Option.getD_some]
    rw [hy2] at HB
    generalize l[i]'(by rw [hml]; exact h1) = y at hcx HB
    have i0 : (0 : Int) ≤ (i : Int) := by omega
    have i1 : (i : Int) < (n : Int) := by omega
    have t0 : decide (i < n) = true := by simpa using h1
    by_cases h2 : y < (a : Int) + m
    · have t1 : decide (y < (a : Int) + (m : Int)) = true := by simpa using h2
      have HR := Lib.hid (show shownB l a m = true by rw [HB.out, t0, t1]; rfl)
      clear hi hml hup hs hs1 hb1 hB hy2
      go_enter Try.func60, Try.ntmps60
      go_wp2_with fail
      refine HS.out.mono ?_
      rintro e w' ⟨⟨b, rfl⟩, rfl⟩
      go_wp2
      go_quiet (fail)
      go_wp2
      go_ret
      exact ⟨ret_bool HR.out.symm, below_drewN HB1.out _⟩
    · have t1 : decide (y < (a : Int) + (m : Int)) = false := by simpa using h2
      have HR := Lib.hid (show shownB l a m = false by rw [HB.out, t0, t1]; rfl)
      clear hi hml hup hs hs1 hb1 hB hy2
      go_enter Try.func60, Try.ntmps60
      go_wp2_with fail
      refine HS.out.mono ?_
      rintro e w' ⟨⟨b, rfl⟩, rfl⟩
      go_wp2
      go_quiet (fail)
      go_wp2
      go_ret
      exact ⟨ret_bool HR.out.symm, below_drewN HB1.out _⟩
  · have t0 : decide (i < n) = false := by simpa using h1
    have t1 : decide ((i : Int) < (n : Int)) = false := by simp; omega
    have HR := Lib.hid (show shownB l a m = false by rw [HB.out, t0]; rfl)
    clear hi hml hup hs hs1 hb1 hB
    go_enter Try.func60, Try.ntmps60
    go_wp2_with fail
    refine HS.out.mono ?_
    rintro e w' ⟨⟨b, rfl⟩, rfl⟩
    go_wp2
    go_quiet (fail)
    go_wp2
    go_ret
    exact ⟨ret_bool HR.out.symm, below_drewN HB1.out _⟩
set_option maxRecDepth 100000 in
set_option maxHeartbeats 2000000 in
theorem joined_any (first : Int) (A : Option Addr) (m cap : Nat) (ts : List (List Int)) (hm : ts.length = m) (hmm : m ≤ 1000000) (htot : ts.flatten.length * 8 + 16 ≤ 140737488355328) (w : World) (hT : TB w A ts) :
    Calls Try.prog 56 #[vi first, .slice A m cap] w fun e w' => Made (first :: ts.flatten) w e w' := by
  have hba : Below w.heap.size w (w.alloc (.cells #[vi first] 3)) := (Below.refl _ _).alloc (Nat.le_refl _) _
  have hcc := concat_any A m cap ts hm hmm (by omega) _ (hT.below hba)
  have ho1 : Own (w.alloc (.cells #[vi first] 3)) w.heap.size (.slice (some ⟨w.heap.size, 0, none⟩) 1 1) [first] := own_lit w w.heap.size [first] (Nat.le_refl _) (by simp [maxLen])
  obtain ⟨L, hL⟩ : ∃ L, L = ts.flatten := ⟨_, rfl⟩
  have hLl : L.length + 1 ≤ 17592186044416 := by rw [hL]; omega
  rw [← hL] at hcc ⊢
  have HCC := Lib.hid hcc
  have HO1 := Lib.hid ho1
  have HBA := Lib.hid hba
  clear hL hm hmm htot hcc hT hba ho1
  go_enter Try.func56, Try.ntmps56
  go_wp2_with fail
  refine HCC.out.mono ?_
  rintro _ w2 ⟨v2, rfl, ho2, hb2⟩
  obtain ⟨A2, n2, c2, rfl, hl2, _, _, hs2⟩ := ho2.shapeN
  have ho1' := HO1.out.below hb2
  have hsz : w.heap.size ≤ w2.heap.size := by have := hb2.size; simp at this; omega
  have HL2 := Lib.hid hl2
  have HB2 := Lib.hid (HBA.out.trans (hb2.mono (by simp)))
  rw [hl2] at hLl
  clear hl2 ho2 hb2
  go_wp2_with (at_builtin; refine wpList_appA w2 rfl _ _ rfl w.heap.size _ [first] A2 n2 c2 L rfl rfl HL2.out ho1' hs2 (by simp; omega) hsz ?_; intro v3 w3 hg3)
  go_ret
  exact ⟨v3, rfl, hg3.own, hg3.below HB2.out ho1' (Nat.le_refl _) hsz⟩
def ElemsRel (p : Nat) [NeZero p] (xs : List Int) (w : World) (v i : Value) (wr : World) : Prop := ∃ k : Nat, k ≤ xs.length ∧ i = vi k ∧ Own wr w.heap.size v ((fvs (els p xs)).take k) ∧ Below w.heap.size w wr
theorem take_fvs {p : Nat} [NeZero p] {xs : List Int} {k : Nat} (hk : k < xs.length) : (fvs (els p xs)).take (k + 1) = (fvs (els p xs)).take k ++ [fv (el p xs[k])] := by
  rw [List.take_succ_eq_append_getElem (by simpa [fvs, els] using hk)]; simp [fvs, els]
set_option maxRecDepth 100000 in
set_option maxHeartbeats 2000000 in
theorem elements_any (p b : Nat) [NeZero p] (hp2 : p ≤ 2147483647) (A : Option Addr) (n cap : Nat) (xs : List Int) (hl : xs.length = n) (hxs : ∀ n ∈ xs, I64 n) (hreach : n * 8 ≤ 140737488355328) (w : World) (hs : SL w A xs) (hc : w.cell? ⟨b, 0, none⟩ = some (vi p)) :
    Calls Try.prog 34 #[.pointer (some ⟨b, 0, none⟩), .slice A n cap] w fun e w' => Made (fvs (els p xs)) w e w' := by
  have hmk := make_ints0 n (by omega)
  have ho0 := own_made0 w w.heap.size n (Nat.le_refl _) (by omega)
  have hb0 : Below w.heap.size w (w.alloc (.cells (zeros n) 3)) := (Below.refl _ _).alloc (Nat.le_refl _) _
  have hbl := block_lt_of_cell hc
  have HL := Lib.hid hl
  have HO0 := Lib.hid ho0
  have HB0 := Lib.hid hb0
  clear hl ho0 hb0
  go_enter Try.func34, Try.ntmps34
  go_wp2
  go_loopw [5, 7, 13] (fun v _ i wr => ElemsRel p xs w v i wr) (fun _ _ i _ => n - (intOf i).toNat)
  case atStart => exact ⟨0, Nat.zero_le _, rfl, HO0.out, HB0.out⟩
  case round =>
    obtain ⟨k, hk, rfl, hown, hb⟩ := hrel
    rw [HL.out] at hk
    by_cases hlt : k < n
    · have hkx : k < xs.length := by rw [HL.out]; exact hlt
      obtain ⟨ad, rfl, hab, hcell⟩ := (hs.below hb).at_ hkx
      have hI := hxs _ (List.getElem_mem hkx)
      have hcr := (hb.cell (p := ⟨b, 0, none⟩) hbl).trans hc
      have hts := take_fvs (p := p) hkx
      obtain ⟨x, hx⟩ : ∃ x, x = xs[k] := ⟨_, rfl⟩
      rw [← hx] at hI hcell hts
      have HX := Lib.hid hts
      have HOF := Lib.hid (of_el p hp2 b x hI wr hcr)
      clear hx hts
      have hll : ((fvs (els p xs)).take k).length ≤ k := List.length_take_le _ _
      go_wp2_with fail
      refine HOF.out.mono ?_
      rintro e w' ⟨rfl, rfl⟩
      go_wp2_with (at_builtin; refine wpList_app1 _ (fv (el p x)) rfl _ _ rfl w.heap.size _ _ rfl rfl hown (by omega) hb.size ?_; intro v' w1 hg)
      go_roundw
      case rel => exact ⟨k + 1, by rw [HL.out]; omega, by go_num, by rw [HX.out]; exact hg.own, hg.below hb hown (Nat.le_refl _) hb.size⟩
      case measure => simp [intOf]; omega
    · obtain rfl : k = n := by omega
      go_wp2
      go_ret
      rw [List.take_of_length_le (by simp [fvs, els]; rw [HL.out]; exact Nat.le_refl _)] at hown
      exact ⟨_, rfl, hown, hb⟩
end Go.Proofs.Ytmhhgaofilaalaa

/- The walk of (*Domain).Values. -/
set_option linter.unusedVariables false
namespace Go.Proofs.Ytmhhgaofilaalaa
open Go.RowKit Zp

/-- a root of a power of two: the half of its order makes -1 -/
theorem root_cond {p : Nat} [NeZero p] (hp : IsPrime p) {n : Nat} (h : SizeOk p n) {r : Fin p} (hr : Ord r n) : n = 1 ∨ ∃ m, n = 2 * m ∧ pw r m = -1 := by
  obtain ⟨⟨k, _, e⟩, _⟩ := h
  cases k with
  | zero => exact .inl e
  | succ k =>
    have e2 : n = 2 * 2 ^ k := by rw [e, Nat.pow_succ, Nat.mul_comm]
    rw [e2] at hr
    exact .inr ⟨2 ^ k, e2, ord_half hp (Nat.pow_pos (by omega)) hr⟩


/-- a slice of n ints that is read alone -/
def GivesN (n : Nat) (xs : List Int) (w : World) (e : Ending) (w' : World) : Prop := ∃ A c, xs.length = n ∧ e = .returned (.slice A n c) ∧ n ≤ c ∧ c ≤ maxLen ∧ SL w' A xs ∧ Below w.heap.size w w'
theorem Gives.n {xs : List Int} {w w' : World} {e : Ending} (h : Gives xs w e w') {n : Nat} (hn : xs.length = n) : GivesN n xs w e w' := by
  obtain ⟨A, c, h1, h2, h3, h4, h5⟩ := h
  subst hn
  exact ⟨A, c, rfl, h1, h2, h3, h4, h5⟩
theorem SL.co {p : Nat} [NeZero p] {w : World} {A : Option Addr} {l : List (Fin p)} (h : SL w A (fvs l)) {k : Nat} (hk : k < l.length) : ∃ ad, A = some ad ∧ w.cell? (ad.add k) = some (vi (fv (co l k))) := by
  obtain ⟨ad, h1, _, h2⟩ := h.at_ (k := k) (by simpa using hk)
  exact ⟨ad, h1, by rw [h2, co_of_lt hk, List.getElem_map]⟩
end Go.Proofs.Ytmhhgaofilaalaa

/- Walks: bits.Len of powers of two, sums.variables. -/
set_option linter.unusedVariables false
namespace Go.Proofs.Ytmhhgaofilaalaa
open Go.RowKit Zp

set_option maxRecDepth 1000000 in
set_option maxHeartbeats 1000000 in
theorem len64_0 (w : World) :
    Calls Try.prog 77 #[.int .u64 1] w fun e w' => e = .returned (vi 1) ∧ w = w' := by
  go_enter Try.func77, Try.ntmps77
  go_wp2
  go_ret
  exact ⟨ret_int (by kernel_rfl), rfl⟩
set_option maxRecDepth 1000000 in
set_option maxHeartbeats 1000000 in
theorem len64_1 (w : World) :
    Calls Try.prog 77 #[.int .u64 2] w fun e w' => e = .returned (vi 2) ∧ w = w' := by
  go_enter Try.func77, Try.ntmps77
  go_wp2
  go_ret
  exact ⟨ret_int (by kernel_rfl), rfl⟩
set_option maxRecDepth 1000000 in
set_option maxHeartbeats 1000000 in
theorem len64_2 (w : World) :
    Calls Try.prog 77 #[.int .u64 4] w fun e w' => e = .returned (vi 3) ∧ w = w' := by
  go_enter Try.func77, Try.ntmps77
  go_wp2
  go_ret
  exact ⟨ret_int (by kernel_rfl), rfl⟩
set_option maxRecDepth 1000000 in
set_option maxHeartbeats 1000000 in
theorem len64_3 (w : World) :
    Calls Try.prog 77 #[.int .u64 8] w fun e w' => e = .returned (vi 4) ∧ w = w' := by
  go_enter Try.func77, Try.ntmps77
  go_wp2
  go_ret
  exact ⟨ret_int (by kernel_rfl), rfl⟩
set_option maxRecDepth 1000000 in
set_option maxHeartbeats 1000000 in
theorem len64_4 (w : World) :
    Calls Try.prog 77 #[.int .u64 16] w fun e w' => e = .returned (vi 5) ∧ w = w' := by
  go_enter Try.func77, Try.ntmps77
  go_wp2
  go_ret
  exact ⟨ret_int (by kernel_rfl), rfl⟩
set_option maxRecDepth 1000000 in
set_option maxHeartbeats 1000000 in
theorem len64_5 (w : World) :
    Calls Try.prog 77 #[.int .u64 32] w fun e w' => e = .returned (vi 6) ∧ w = w' := by
  go_enter Try.func77, Try.ntmps77
  go_wp2
  go_ret
  exact ⟨ret_int (by kernel_rfl), rfl⟩
set_option maxRecDepth 1000000 in
set_option maxHeartbeats 1000000 in
theorem len64_6 (w : World) :
    Calls Try.prog 77 #[.int .u64 64] w fun e w' => e = .returned (vi 7) ∧ w = w' := by
  go_enter Try.func77, Try.ntmps77
  go_wp2
  go_ret
  exact ⟨ret_int (by kernel_rfl), rfl⟩
set_option maxRecDepth 1000000 in
set_option maxHeartbeats 1000000 in
theorem len64_7 (w : World) :
    Calls Try.prog 77 #[.int .u64 128] w fun e w' => e = .returned (vi 8) ∧ w = w' := by
  go_enter Try.func77, Try.ntmps77
  go_wp2
  go_ret
  exact ⟨ret_int (by kernel_rfl), rfl⟩
set_option maxRecDepth 1000000 in
set_option maxHeartbeats 1000000 in
theorem len64_8 (w : World) :
    Calls Try.prog 77 #[.int .u64 256] w fun e w' => e = .returned (vi 9) ∧ w = w' := by
  go_enter Try.func77, Try.ntmps77
  go_wp2
  go_ret
  exact ⟨ret_int (by kernel_rfl), rfl⟩
set_option maxRecDepth 1000000 in
set_option maxHeartbeats 1000000 in
theorem len64_9 (w : World) :
    Calls Try.prog 77 #[.int .u64 512] w fun e w' => e = .returned (vi 10) ∧ w = w' := by
  go_enter Try.func77, Try.ntmps77
  go_wp2
  go_ret
  exact ⟨ret_int (by kernel_rfl), rfl⟩
set_option maxRecDepth 1000000 in
set_option maxHeartbeats 1000000 in
theorem len64_10 (w : World) :
    Calls Try.prog 77 #[.int .u64 1024] w fun e w' => e = .returned (vi 11) ∧ w = w' := by
  go_enter Try.func77, Try.ntmps77
  go_wp2
  go_ret
  exact ⟨ret_int (by kernel_rfl), rfl⟩
set_option maxRecDepth 1000000 in
set_option maxHeartbeats 1000000 in
theorem len64_11 (w : World) :
    Calls Try.prog 77 #[.int .u64 2048] w fun e w' => e = .returned (vi 12) ∧ w = w' := by
  go_enter Try.func77, Try.ntmps77
  go_wp2
  go_ret
  exact ⟨ret_int (by kernel_rfl), rfl⟩
set_option maxRecDepth 1000000 in
set_option maxHeartbeats 1000000 in
theorem len64_12 (w : World) :
    Calls Try.prog 77 #[.int .u64 4096] w fun e w' => e = .returned (vi 13) ∧ w = w' := by
  go_enter Try.func77, Try.ntmps77
  go_wp2
  go_ret
  exact ⟨ret_int (by kernel_rfl), rfl⟩
end Go.Proofs.Ytmhhgaofilaalaa

/- Walks: Point, Half, fold.one, folded, Fold. -/
set_option linter.unusedVariables false
namespace Go.Proofs.Ytmhhgaofilaalaa
open Go.RowKit Zp




def FoldRel {p : Nat} [NeZero p] (l : List (Fin p)) (h : Nat) (w : World) (v i : Value) (wr : World) : Prop := ∃ k g : Nat, k ≤ h ∧ i = vi k ∧ v = .slice (some ⟨g, 0, none⟩) k h ∧ Own wr w.heap.size v ((fvs l).take k) ∧ Below w.heap.size w wr

/-- append of one int within the capacity, at a step of a region that draws its order -/
theorem step_app1_fits {ops : Array Oper} {o : Oper} {a : Act} {K : Act → World → Prop} {Q : Exit → Act → World → Prop} {E : Prop} (w W : World) (n : Int) (hW : W = w.alloc (.cells #[vi n] 3)) (hgd : o.guard = none) (s x : Operand)
    (ho : o.op = .call { callee := .builtin .append, args := #[s, x], argTypes := #[22, 22] })
    (base g k cap : Nat) (xs : List Int) (hs : a.eval s = .slice (some ⟨g, 0, none⟩) k cap) (hx : a.eval x = .slice (some ⟨w.heap.size, 0, none⟩) 1 1) (hown : Own w base (.slice (some ⟨g, 0, none⟩) k cap) xs) (hk : k = xs.length) (hroom : k < cap)
    (h : ∀ w', Own w' base (.slice (some ⟨g, 0, none⟩) (k + 1) cap) (xs ++ [n]) → w.grownBy w' (some g) → K (a.put o.dst (.slice (some ⟨g, 0, none⟩) (k + 1) cap)) w') :
    if Region.wanted o (yielded ops a.tmps) = true then Oper.wp Try.prog o a W K Q else E := by
  have hw : Region.wanted o (yielded ops a.tmps) = true := by simp [Region.wanted, hgd]
  rw [if_pos hw]
  subst hk hW
  obtain ⟨i0, hi, hz0, hz1, hz2⟩ := info_parts info_int
  obtain ⟨w', hrun, h2, h3⟩ := run_append_fits (P := Try.prog) (w.alloc (.cells #[vi n] 3)) base 22 o.type 3 i0 1 Try.underlying22 hi hz1 g xs.length cap (xs.map vi) (hown.alloc _)
    ⟨w.heap.size, 0, none⟩ 1 1 [vi n] rfl (cell_one_new _ _ _) (by simp [Value.oneCell']) (by omega)
  unfold Oper.wp execOp
  simp only [ho, resolve, invoke, builtin, Sem.run_bind, Sem.run_pure, Result.andThen_ok, List.map_toArray, List.map_cons, List.map_nil, hs, hx, hrun]
  refine h w' ?_ (grownBy_trans (World.grownBy_alloc w _ _) h3)
  have e : (xs ++ [n]).length = xs.length + 1 := by simp
  rw [Own, e, List.map_append]
  exact h2


end Go.Proofs.Ytmhhgaofilaalaa

/- Walks: sums.fixed, Fix, Extend. -/
set_option linter.unusedVariables false
namespace Go.Proofs.Ytmhhgaofilaalaa
open Go.RowKit Zp

end Go.Proofs.Ytmhhgaofilaalaa

/- Walks: code.may, Encode, Distance. -/
set_option linter.unusedVariables false
namespace Go.Proofs.Ytmhhgaofilaalaa
open Go.RowKit Zp



theorem of_elq (p : Nat) [NeZero p] (hp2 : p ≤ 2147483647) (b : Nat) (n : Int) (hn : I64 n) (w : World) (hc : w.cell? ⟨b, 0, none⟩ = some (vi p)) :
    Calls Try.prog 39 #[.pointer (some ⟨b, 0, none⟩), vi n] w fun e w' => e = .returned (vi (fv (el p n))) ∧ w = w' :=
  (of_el p hp2 b n hn w hc).mono fun _ _ h => ⟨h.1, h.2.symm⟩
end Go.Proofs.Ytmhhgaofilaalaa

/- Walk: sums.Extend. -/
set_option linter.unusedVariables false
namespace Go.Proofs.Ytmhhgaofilaalaa
open Go.RowKit Zp

abbrev NoInt (k : Int) : Ending := .returned (.tuple #[vi 0, .iface 72 (.int .i64 k)])
/-- an int, no error -/
def GivesI (x : Int) (w : World) (e : Ending) (w' : World) : Prop := e = .returned (.tuple #[vi x, .nilIface]) ∧ Below w.heap.size w w'
end Go.Proofs.Ytmhhgaofilaalaa

/- Tables in memory; walks: sums.total. -/
set_option linter.unusedVariables false
namespace Go.Proofs.Ytmhhgaofilaalaa
open Go.RowKit Zp

/-- a product of k -/
def prodT {p : Nat} [NeZero p] (k : Nat) (f : Nat → Fin p) : Fin p := match k with
  | 0 => 1
  | k + 1 => prodT k f * f k
theorem prodT_succ {p : Nat} [NeZero p] (k : Nat) (f : Nat → Fin p) : prodT (k + 1) f = prodT k f * f k := rfl
theorem prodT_congr {p : Nat} [NeZero p] {k : Nat} {f g : Nat → Fin p} (h : ∀ i, i < k → f i = g i) : prodT k f = prodT k g := by
  induction k with
  | zero => rfl
  | succ k ih => rw [prodT_succ, prodT_succ, ih (fun i hi => h i (by omega)), h k (by omega)]
/-- table number j of several -/
def tabOf (p : Nat) [NeZero p] (ts : List (List Int)) (j : Nat) : List (Fin p) := els p (ts.getD j [])
/-- the sum of the products of the tables -/
def totP {p : Nat} [NeZero p] (d n : Nat) (T : Nat → List (Fin p)) : Fin p := sumT n fun i => prodT d fun j => co (T j) i

end Go.Proofs.Ytmhhgaofilaalaa

/- Plain facts: the round's polynomial of a sum; what is not true is caught. No program is in sight but for the words of the tables. -/
set_option linter.unusedVariables false
namespace Go.Proofs.Ytmhhgaofilaalaa
open Zp
section ct
variable {p : Nat} [NeZero p]

theorem fixE_eq (a b r : Fin p) : fixE a b r = a + (b - a) * r := by unfold fixE; grind

/-- a product of straight lines is a polynomial -/
theorem prod_poly (d : Nat) (f g : Nat → Fin p) : ∃ Q : List (Fin p), Q.length ≤ d + 1 ∧ ∀ r, ev Q r = prodT d fun j => fixE (f j) (g j) r := by
  induction d with
  | zero => exact ⟨[1], by simp, fun r => by simp only [ev, prodT]; grind⟩
  | succ d ih =>
    obtain ⟨Q, h1, h2⟩ := ih
    refine ⟨trimL (mulL Q [f d, g d - f d]), ?_, fun r => ?_⟩
    · have h3 : (trimL (mulL Q [f d, g d - f d])).length ≤ Q.length + 1 := trimL_length_of fun i hi => co_mulL_ge _ Q i (by simp; omega)
      omega
    · rw [ev_trim, ev_mulL, h2, prodT_succ, fixE_eq]
      simp only [ev]
      grind
theorem sum_poly (d h : Nat) (F G : Nat → Nat → Fin p) : ∃ Q : List (Fin p), Q.length ≤ d + 1 ∧ ∀ r, ev Q r = sumT h fun i => prodT d fun j => fixE (F i j) (G i j) r := by
  induction h with
  | zero => exact ⟨[], by simp, fun r => rfl⟩
  | succ h ih =>
    obtain ⟨Q, h1, h2⟩ := ih
    obtain ⟨R, h3, h4⟩ := prod_poly d (F h) (G h)
    refine ⟨addL Q R, ?_, fun r => ?_⟩
    · rw [addL, tab_length]; omega
    · rw [ev_addL, h2, h4, sumT_succ]
theorem sumT_split (m k : Nat) (f : Nat → Fin p) : sumT (m + k) f = sumT m f + sumT k (fun i => f (i + m)) := by
  induction k with
  | zero => simp only [sumT, Nat.add_zero]; grind
  | succ k ih => rw [← Nat.add_assoc, sumT_succ, ih, sumT_succ, Nat.add_comm k m]; grind

/-- the tables with the first variable let be r -/
def fixT (h : Nat) (T : Nat → List (Fin p)) (r : Fin p) (j : Nat) : List (Fin p) := fixL h (T j) r
theorem tot_fix (d h : Nat) (T : Nat → List (Fin p)) (r : Fin p) : totP d h (fixT h T r) = sumT h fun i => prodT d fun j => fixE (co (T j) i) (co (T j) (i + h)) r :=
  sumT_congr fun i hi => prodT_congr fun j hj => by rw [fixT, co_fixL _ _ hi]
theorem tot_round (d h : Nat) (T : Nat → List (Fin p)) : totP d (2 * h) T = totP d h (fixT h T 0) + totP d h (fixT h T 1) := by
  rw [tot_fix, tot_fix, totP, Nat.two_mul, sumT_split]
  congr 1
  · exact sumT_congr fun i _ => prodT_congr fun j _ => by rw [fixE_eq]; grind
  · exact sumT_congr fun i _ => prodT_congr fun j _ => by rw [fixE_eq]; grind

/-- if all of d + 1 unlike elements are met, the sum is true -/
theorem catch_law (hp : IsPrime p) {d h : Nat} (T : Nat → List (Fin p)) {g : List (Fin p)} (hg : g.length ≤ d + 1) {rs : List (Fin p)} (hn : rs.Nodup) (hl : rs.length = d + 1) (hr : ∀ r ∈ rs, totP d h (fixT h T r) = ev g r) :
    totP d (2 * h) T = ev g 0 + ev g 1 := by
  obtain ⟨Q, h1, h2⟩ := sum_poly d h (fun i j => co (T j) i) (fun i j => co (T j) (i + h))
  have hQ : ∀ r, ev Q r = totP d h (fixT h T r) := fun r => by rw [h2, tot_fix]
  have hz : trimL (subL Q g) = [] := zero_of_roots hp hn (fun r hrm => by rw [ev_subL, hQ, hr r hrm]; grind) (by rw [subL, tab_length]; omega)
  have he : ∀ r, ev Q r = ev g r := fun r => by
    have h3 := ev_trim (subL Q g) r
    rw [hz, ev_subL] at h3
    simp only [ev] at h3
    grind
  rw [tot_round, ← hQ, ← hQ, he, he]
end ct
end Go.Proofs.Ytmhhgaofilaalaa

/- A slice of ints that came in. -/
set_option linter.unusedVariables false
namespace Go.Proofs.Ytmhhgaofilaalaa
open Go.RowKit

/-- '.slice A n c' came in and reads as xs -/
structure ArgS (w : World) (A : Option Addr) (n c : Nat) (xs : List Int) : Prop where
  len : xs.length = n
  cap : n ≤ c
  i64 : ∀ x ∈ xs, I64 x
  reach : c * 8 ≤ 140737488351232
  sl : SL w A xs

theorem ArgS.nil (w : World) : ArgS w none 0 0 [] := ⟨rfl, Nat.le_refl _, by simp, by omega, SL.nil⟩
theorem i64_of_wf {n : Int} (h : (Lit.int .i64 n).wf = true) : I64 n := by
  simpa [Lit.wf, IntKind.min, IntKind.max, IntKind.signed, IntKind.bits] using h

theorem ArgS.mk_ {w : World} {a : Addr} {len cap : Nat} {zs : List Int} (hl : len ≤ cap) (hm : cap ≤ maxLen) (hz : zs.length = cap) (lt : ∀ q ∈ MemPlace.row a zs.length, q.block < w.heap.size)
    (hcell : ∀ i, i < zs.length → w.cell? (a.add i) = some (.int .i64 (zs.getD i 0))) (hwz : ∀ n ∈ zs, (Lit.int .i64 n).wf = true) (hb : cap * 8 ≤ 140737488351232) : ArgS w (some a) len cap (zs.take len) := by
  have hlen : (zs.take len).length = len := by rw [List.length_take, hz]; omega
  refine ⟨hlen, hl, fun x hx => i64_of_wf (hwz x (List.mem_of_mem_take hx)), hb, ?_⟩
  refine ⟨by simp, fun hn => ⟨a, rfl, ?_, fun j u hu => ?_⟩⟩
  · have h0 : 0 < zs.length := by rw [hlen] at hn; omega
    have hc0 := hcell 0 h0
    have : (a.add 0).block < w.heap.size := by
      false_or_by_contra
      rename_i hge
      rw [World.cell?, Array.getElem?_eq_none (by omega)] at hc0
      cases hc0
    rwa [block_of_add] at this
  · rw [List.getElem?_map] at hu
    cases hj : (zs.take len)[j]? with
    | none => rw [hj] at hu; cases hu
    | some x =>
      rw [hj] at hu
      injection hu with hu
      rw [List.getElem?_take] at hj
      split at hj
      · have hjl : j < zs.length := (List.getElem?_eq_some_iff.1 hj).1
        rw [hcell j hjl, ← hu]
        simp [List.getD_eq_getElem?_getD, hj]
      · cases hj

section
variable {w w' : World} {A : Option Addr} {n c : Nat} {xs : List Int}
theorem ArgS.below (h : ArgS w A n c xs) (hb : Below w.heap.size w w') : ArgS w' A n c xs := ⟨h.len, h.cap, h.i64, h.reach, h.sl.below hb⟩
theorem ArgS.r8 (h : ArgS w A n c xs) : xs.length * 8 ≤ 140737488351232 := by
  have := h.reach
  have := h.cap
  have := h.len
  omega
end
end Go.Proofs.Ytmhhgaofilaalaa

/- Own slices of slices of ints: append of one; how they read; slices of slices of ints that came in. -/
set_option linter.unusedVariables false
namespace Go.Proofs.Ytmhhgaofilaalaa
open Go.RowKit

theorem info_ints : (Try.prog.info? 22).map (fun i => (i.zero, i.size, i.bytes)) = some (some (.slice none 0 0), 1, 24) := by kernel_rfl

/-- the call's own slice of slices of ints -/
abbrev OwnR (w : World) (base : Nat) (v : Value) (us : List Value) : Prop := w.ownsRow base 22 1 v us.length us
/-- each is a slice of ints of the call's own -/
def RowsOwn (w : World) (base : Nat) (us : List Value) (ls : List (List Int)) : Prop := us.length = ls.length ∧ ∀ k (h : k < us.length) (h' : k < ls.length), Own w base us[k] ls[k]

theorem own_ne {w : World} {base base' : Nat} {v u : Value} {xs : List Int} {us : List Value} (h : Own w base v xs) (k : OwnR w base' u us) : v.ownBlock = none ∨ v.ownBlock ≠ u.ownBlock := by
  rcases h.2 with ⟨rfl, _⟩ | ⟨g, cap, cur, rfl, _, hg, _⟩
  · exact .inl rfl
  · refine .inr ?_
    rcases k.2 with ⟨rfl, _⟩ | ⟨g', cap', cur', rfl, _, hg', _⟩
    · intro e; cases e
    · intro e
      injection e with e
      subst e
      rw [hg] at hg'
      injection hg' with hg'
      injection hg' with _ ht
      exact absurd ht (by decide)

/-- what an append of an own row leaves -/
structure GrewR (w w' : World) (base : Nat) (v v' : Value) (us : List Value) : Prop where
  own : OwnR w' base v' us
  grown : w.grownBy w' v.ownBlock

theorem GrewR.below {w0 w w' : World} {base : Nat} {v v' : Value} {us vs : List Value} (h : GrewR w w' base v v' us) {B : Nat} (hb : Below B w0 w) (ho : OwnR w base v vs) (hB : B ≤ base) (hs : B ≤ w.heap.size) : Below B w0 w' :=
  hb.grown h.grown hs (fun k hk => Nat.le_trans hB (World.ownsRow.lt ho k hk).1)
theorem GrewR.rows {w w' : World} {base base2 : Nat} {v v' : Value} {us vs ws : List Value} {ls : List (List Int)} (h : GrewR w w' base v v' us) (ho : OwnR w base v vs) (hr : RowsOwn w base2 ws ls) : RowsOwn w' base2 ws ls :=
  ⟨hr.1, fun k h1 h2 => (hr.2 k h1 h2).grown h.grown (own_ne (hr.2 k h1 h2) ho)⟩

theorem run_appR (w : World) (base : Nat) (v : Value) (us : List Value) (A : Option Addr) (n c : Nat) (hown : OwnR w base v us) (hlen : us.length < 5864062014805) (hbase : base ≤ w.heap.size) (ty : TypeId) :
    ∃ v' w', (Builtin.append_ #[23, 23] ty #[v, .slice (some ⟨w.heap.size, 0, none⟩) 1 1]).run Try.prog (w.alloc (.cells #[.slice A n c] 22)) = .ok v' w' ∧ GrewR w w' base v v' (us ++ [.slice A n c]) := by
  obtain ⟨i0, hi, hz0, hz1, hz2⟩ := info_parts info_ints
  obtain ⟨v', w', hrun, h2, h3, _, h5⟩ := run_append_own_at (P := Try.prog) (w.alloc (.cells #[.slice A n c] 22)) base 23 ty 22 i0 _ 1 24 Try.underlying23 hi hz0 hz1 hz2 rfl (by omega)
    v us.length us (hown.alloc _) ⟨w.heap.size, 0, none⟩ 1 1 [.slice A n c] rfl (by
      intro j u hj
      match j, hj with
      | 0, hj => simp at hj; subst hj; simp [Addr.add]) (by simp [Value.oneCell']) (by simp only [maxLen]; omega) (by omega) (by simp; omega)
  refine ⟨v', w', hrun, ?_, grownBy_trans (World.grownBy_alloc w _ _) h3⟩
  have e : (us ++ [Value.slice A n c]).length = us.length + 1 := by simp
  rw [OwnR, e]
  exact h2

/-- append of one row -/
theorem wpList_appR {ops : Array Oper} {rest : List Oper} {o : Oper} {a : Act} {Q : Exit → Act → World → Prop} (w : World) (A : Option Addr) (n c : Nat) (hgd : o.guard = none) (s x : Operand)
    (ho : o.op = .call { callee := .builtin .append, args := #[s, x], argTypes := #[23, 23] })
    (base : Nat) (v : Value) (us : List Value) (hs : a.eval s = v) (hx : a.eval x = .slice (some ⟨w.heap.size, 0, none⟩) 1 1) (hown : OwnR w base v us) (hlen : us.length < 5864062014805) (hbase : base ≤ w.heap.size)
    (h : ∀ v' w', GrewR w w' base v v' (us ++ [.slice A n c]) → wpList Try.prog ops Q rest (a.put o.dst v') w') : wpList Try.prog ops Q (o :: rest) a (w.alloc (.cells #[.slice A n c] 22)) :=
  wpList_plain hgd fun _ hK => by
    obtain ⟨v', w', hrun, hg⟩ := run_appR w base v us A n c hown hlen hbase o.type
    unfold Oper.wp execOp
    simp only [ho, resolve, invoke, builtin, Sem.run_bind, Sem.run_pure, Result.andThen_ok, List.map_toArray, List.map_cons, List.map_nil, hs, hx, hrun]
    exact hK _ _ (h v' w' hg)

theorem RowsOwn.nil (w : World) (base : Nat) : RowsOwn w base [] [] := ⟨rfl, fun k h => absurd h (by simp)⟩
theorem RowsOwn.snoc {w : World} {base : Nat} {us : List Value} {ls : List (List Int)} {u : Value} {l : List Int} (h : RowsOwn w base us ls) (hu : Own w base u l) : RowsOwn w base (us ++ [u]) (ls ++ [l]) := by
  have hl := h.1
  refine ⟨by simp [hl], fun k h1 h2 => ?_⟩
  by_cases hk : k < us.length
  · rw [List.getElem_append_left hk, List.getElem_append_left (by omega)]
    exact h.2 k hk (by omega)
  · have e : k = us.length := by simp at h1; omega
    subst e
    rw [List.getElem_append_right (Nat.le_refl _), List.getElem_append_right (by omega)]
    simpa [hl] using hu
theorem RowsOwn.below {w w' : World} {base : Nat} {us : List Value} {ls : List (List Int)} (h : RowsOwn w base us ls) (hb : Below w.heap.size w w') : RowsOwn w' base us ls := ⟨h.1, fun k h1 h2 => (h.2 k h1 h2).below hb⟩
theorem RowsOwn.more {w : World} {base base' : Nat} {us : List Value} {ls : List (List Int)} (h : RowsOwn w base us ls) (hb : base' ≤ base) : RowsOwn w base' us ls := ⟨h.1, fun k h1 h2 => (h.2 k h1 h2).more hb⟩

/-- own rows read as tables -/
theorem tb_own {w : World} {base base2 : Nat} {A : Option Addr} {n c : Nat} {us : List Value} {ls : List (List Int)} (h : OwnR w base (.slice A n c) us) (hr : RowsOwn w base2 us ls) (hi : ∀ l ∈ ls, ∀ x ∈ l, I64 x) : TB w A ls := fun k hk => by
  have hku : k < us.length := by rw [hr.1]; exact hk
  have hn : us.length = n := by
    rcases h.2 with ⟨e, h0⟩ | ⟨g, cap, cur, e, _⟩
    · injection e with _ e2 _; omega
    · injection e with _ e2 _; exact e2.symm
  subst hn
  have hrd := Reads.of_own h
  obtain ⟨ad, u, e1, e2, e3, e4⟩ := Reads.at_ (k := k) hrd (by omega)
  have e5 : u = us[k] := by
    rw [List.getElem?_eq_getElem hku] at e3
    injection e3 with e3
    exact e3.symm
  obtain ⟨A1, n1, c1, e6, e7, e8, e9, e10⟩ := (hr.2 k hku hk).shapeN
  have hm : maxLen < 9223372036854775808 := by simp [maxLen]
  exact ⟨ad, A1, n1, c1, e1, by rw [block_of_add]; exact e2, by rw [e4, e5, e6], e7, by omega, e10, hi _ (List.getElem_mem hk)⟩
theorem ownR_shape {w : World} {base : Nat} {v : Value} {us : List Value} (h : OwnR w base v us) : ∃ A n c, v = .slice A n c ∧ us.length = n ∧ n ≤ c := by
  rcases h.2 with ⟨rfl, h0⟩ | ⟨g, cap, cur, rfl, _, _, h1, _⟩
  · exact ⟨none, 0, 0, rfl, h0, Nat.le_refl _⟩
  · exact ⟨_, _, _, rfl, rfl, h1⟩

/-- '.slice A n c' came in and reads as rows -/
structure ArgM (w : World) (A : Option Addr) (n c : Nat) (ts : List (List Int)) : Prop where
  len : ts.length = n
  cap : n ≤ c
  max : c ≤ 9223372036854775807
  tb : TB w A ts
theorem ArgM.nil (w : World) : ArgM w none 0 0 [] := ⟨rfl, Nat.le_refl _, by omega, fun k hk => absurd hk (by simp)⟩
theorem ArgM.mk_ {w : World} {a : Addr} {len cap : Nat} {A : Nat → Option Addr} {L C : Nat → Nat} {Z : Nat → List Int} (hl : len ≤ cap) (hm : cap ≤ maxLen)
    (h : ∀ r, r < cap → w.cell? (a.add r) = some (.slice (A r) (L r) (C r)) ∧ L r ≤ C r ∧ C r ≤ maxLen ∧ (Z r).length = C r ∧ (∀ n ∈ Z r, (Lit.int .i64 n).wf = true) ∧ (A r = none → C r = 0) ∧
        ∀ a', A r = some a' → 0 ≤ a'.block ∧ ∀ c, c < C r → w.cell? (a'.add c) = some (.int .i64 ((Z r).getD c 0))) :
    ArgM w (some a) len cap ((List.range len).map fun r => (Z r).take (L r)) := by
  have hmm : maxLen ≤ 9223372036854775807 := by simp [maxLen]
  refine ⟨by simp, hl, by omega, fun k hk => ?_⟩
  have hk' : k < len := by simpa using hk
  obtain ⟨h1, h2, h3, h4, h5, h6, h7⟩ := h k (by omega)
  have e : ((List.range len).map fun r => (Z r).take (L r))[k] = (Z k).take (L k) := by simp
  rw [e]
  have hlen : ((Z k).take (L k)).length = L k := by rw [List.length_take, h4]; omega
  refine ⟨a, A k, L k, C k, rfl, block_lt_of_cell h1, h1, hlen, by omega, ⟨by simp, fun hn => ?_⟩, fun x hx => i64_of_wf (h5 x (List.mem_of_mem_take hx))⟩
  rw [hlen] at hn
  cases hA : A k with
  | none => have := h6 hA; omega
  | some a' =>
    obtain ⟨_, h8⟩ := h7 a' hA
    have hc0 := h8 0 (by omega)
    refine ⟨a', rfl, ?_, fun j u hu => ?_⟩
    · have := block_lt_of_cell hc0
      rwa [block_of_add] at this
    · rw [List.getElem?_map] at hu
      cases hj : ((Z k).take (L k))[j]? with
      | none => rw [hj] at hu; cases hu
      | some x =>
        rw [hj] at hu
        injection hu with hu
        rw [List.getElem?_take] at hj
        split at hj
        · have hjl : j < (Z k).length := (List.getElem?_eq_some_iff.1 hj).1
          rw [h8 j (by omega), ← hu]
          simp [List.getD_eq_getElem?_getD, hj]
        · cases hj
end Go.Proofs.Ytmhhgaofilaalaa

/- Walks: sums.checked. -/
set_option linter.unusedVariables false
namespace Go.Proofs.Ytmhhgaofilaalaa
open Go.RowKit Zp

theorem varsI_I64 (n : Nat) : I64 (varsI n) := by
  by_cases h : IsCube n
  · obtain ⟨v, hv⟩ := h
    rw [varsI_of hv]
    have := hv.1
    constructor <;> omega
  · rw [varsI_no h]; constructor <;> decide

end Go.Proofs.Ytmhhgaofilaalaa

/- Walks: sums.checked, Total. -/
set_option linter.unusedVariables false
namespace Go.Proofs.Ytmhhgaofilaalaa
open Go.RowKit Zp

theorem varsI_eq {n v : Nat} (h : varsI n = (v : Int)) : Cube n v := by
  by_cases hi : IsCube n
  · obtain ⟨u, hu⟩ := hi
    rw [varsI_of hu] at h
    obtain rfl : u = v := by omega
    exact hu
  · rw [varsI_no hi] at h; omega
theorem cell_new1 (w : World) (v : Value) (t : TypeId) : (w.alloc (.cells #[v] t)).cell? ⟨w.heap.size, 0, none⟩ = some v := by
  simp
/-- all tables have v variables -/
def Over (ts : List (List Int)) (v : Nat) : Prop := ∀ t ∈ ts, Cube t.length v

end Go.Proofs.Ytmhhgaofilaalaa

/- Plain and memory: tables Fixed; what a round tells, as lists; rows of one's own. -/
set_option linter.unusedVariables false
namespace Go.Proofs.Ytmhhgaofilaalaa
open Go.RowKit Zp


/-- the tables with their first variable let be r, as lists -/
def fixI (q h : Nat) [NeZero q] (ts : List (List Int)) (d : Nat) (r : Fin q) : List (List Int) := (List.range d).map fun j => fvs (fixL h (tabOf q ts j) r)
theorem fixI_length (q h : Nat) [NeZero q] (ts : List (List Int)) (d : Nat) (r : Fin q) : (fixI q h ts d r).length = d := by simp [fixI]
theorem fixI_take (q h : Nat) [NeZero q] (ts : List (List Int)) (d : Nat) (r : Fin q) (k : Nat) (hk : k < d) : (fixI q h ts d r).take k ++ [fvs (fixL h (tabOf q ts k) r)] = (fixI q h ts d r).take (k + 1) := by
  rw [List.take_succ_eq_append_getElem (by rw [fixI_length]; exact hk)]; simp [fixI]
theorem fixI_over (q u : Nat) [NeZero q] (ts : List (List Int)) (d : Nat) (r : Fin q) (hu : u ≤ 12) : Over (fixI q (2 ^ u) ts d r) u := fun l hl => by
  obtain ⟨j, _, rfl⟩ := List.mem_map.1 hl
  exact ⟨hu, by rw [List.length_map, fixL_length]⟩
theorem fixI_i64 (q h : Nat) [NeZero q] (hq : q ≤ 2147483647) (ts : List (List Int)) (d : Nat) (r : Fin q) : ∀ l ∈ fixI q h ts d r, ∀ x ∈ l, I64 x := fun l hl => by
  obtain ⟨j, _, rfl⟩ := List.mem_map.1 hl
  exact fun x hx => by obtain ⟨y, _, rfl⟩ := List.mem_map.1 hx; exact i64_fv _ hq
theorem fixI_tot (q h : Nat) [NeZero q] (ts : List (List Int)) (d : Nat) (r : Fin q) : totP d h (tabOf q (fixI q h ts d r)) = totP d h (fixT h (tabOf q ts) r) := by
  refine sumT_congr fun i _ => prodT_congr fun j hj => ?_
  have e : tabOf q (fixI q h ts d r) j = fixL h (tabOf q ts j) r := by
    unfold tabOf fixI
    rw [List.getD_eq_getElem?_getD, List.getElem?_map, List.getElem?_range hj]
    simp only [Option.map_some, Option.getD_some]
    rw [els_fvs]
    rfl
  rw [e]; rfl

theorem OwnR.below {w w' : World} {base : Nat} {v : Value} {us : List Value} (h : OwnR w base v us) (hb : Below w.heap.size w w') : OwnR w' base v us := by
  rcases h.2 with h0 | ⟨g, cap, cur, e, h1, hg, h2⟩
  · exact ⟨h.1, .inl h0⟩
  · have hlt : g < w.heap.size := (World.ownsRow.lt h g (by rw [e]; rfl)).2
    exact ⟨h.1, .inr ⟨g, cap, cur, e, h1, (hb.block g hlt).trans hg, h2⟩⟩
theorem Fld.drewR {w : World} {S b p : Nat} [NeZero p] (h : Fld w S b p) : Fld w.drew S b p := ⟨h.prime, h.three, h.max, h.lt, h.le, h.c0, h.c1, h.c2⟩
/-- rows of one's own are made -/
def MadeRows (ls : List (List Int)) (w : World) (e : Ending) (w' : World) : Prop :=
  ∃ v us, e = .returned v ∧ OwnR w' w.heap.size v us ∧ RowsOwn w' w.heap.size us ls ∧ Below w.heap.size w w'
def FixRel (q h : Nat) [NeZero q] (ts : List (List Int)) (d : Nat) (r : Fin q) (w4 : World) (v i : Value) (wr : World) : Prop :=
  ∃ (k : Nat) (us : List Value), k ≤ d ∧ i = vi k ∧ OwnR wr w4.heap.size v us ∧ RowsOwn wr w4.heap.size us ((fixI q h ts d r).take k) ∧ Below w4.heap.size w4 wr
theorem fixI_len (q h : Nat) [NeZero q] (ts : List (List Int)) (d : Nat) (r : Fin q) : ∀ t ∈ fixI q h ts d r, t.length = h := fun l hl => by
  obtain ⟨j, _, rfl⟩ := List.mem_map.1 hl
  rw [List.length_map, fixL_length]
/-- the values of a round's polynomial at 0 .. d -/
def roundL (q h : Nat) [NeZero q] (ts : List (List Int)) (d : Nat) : List (Fin q) := (List.range (d + 1)).map fun (i : Nat) => totP d h (fixT h (tabOf q ts) (el q (i : Int)))
theorem roundL_length (q h : Nat) [NeZero q] (ts : List (List Int)) (d : Nat) : (roundL q h ts d).length = d + 1 := by simp [roundL]
theorem roundL_take (q h : Nat) [NeZero q] (ts : List (List Int)) (d k : Nat) (hk : k < d + 1) : (fvs (roundL q h ts d)).take k ++ [fv (totP d h (fixT h (tabOf q ts) (el q (k : Int))))] = (fvs (roundL q h ts d)).take (k + 1) := by
  rw [List.take_succ_eq_append_getElem (by rw [List.length_map, roundL_length]; exact hk)]; simp [roundL]
end Go.Proofs.Ytmhhgaofilaalaa

/- Walks: tree.root, tree.Root. -/
set_option linter.unusedVariables false
namespace Go.Proofs.Ytmhhgaofilaalaa
open Go.RowKit Zp
/-- the rows by their places -/
def rowF (rs : List (List Int)) (i : Nat) : List Int := rs.getD i []
theorem rowF_at {rs : List (List Int)} {i : Nat} (h : i < rs.length) : rowF rs i = rs[i] := by simp [rowF, h]
/-- a digest is handed back, that lies in a block of its own -/
def RootIs (l : List Int) (w : World) (e : Ending) (w' : World) : Prop :=
  ∃ g : Nat, e = .returned (.slice (some ⟨g, 0, none⟩) 4 4) ∧ (∃ cs, Blk w' g 63 cs) ∧ SL w' (some ⟨g, 0, none⟩) l ∧ l.length = 4 ∧ (∀ x ∈ l, I64 x) ∧ w.heap.size ≤ g ∧ Below w.heap.size w w'
theorem HashIs.root {p k : Nat} [NeZero p] (hm : p ≤ 2147483647) {l : List Int} {w w' : World} {e : Ending} (h : HashIs (digE p k l) w e w') : RootIs (digL p k l) w e w' := by
  obtain ⟨g, h1, h2, h3, h4⟩ := h
  exact ⟨g, h1, ⟨_, h2⟩, dig_sl h2, digL_len _ _, i64_digL hm l, h3, h4⟩
theorem RootIs.from {l : List Int} {w0 w w' : World} {e : Ending} (h : RootIs l w e w') (hb : Below w0.heap.size w0 w) : RootIs l w0 e w' := by
  obtain ⟨g, h1, h2, h3, h4, h5, h6, h7⟩ := h
  exact ⟨g, h1, h2, h3, h4, h5, Nat.le_trans hb.size h6, hb.trans (h7.mono hb.size)⟩
set_option maxRecDepth 100000 in
set_option maxHeartbeats 4000000 in
theorem troot_one (p S b s k z : Nat) [NeZero p] (oo : Nat → Nat → Fin p) (A : Option Addr) (N c : Nat) (rs : List (List Int)) (hN : rs.length = N) (hN2 : N ≤ 65536) (hR : ∀ l ∈ rs, l.length * 8 + 80 ≤ 140737488355328)
    (a : Nat) (ha : a + 1 ≤ N) (w : World) (F : Fld w S b p) (G : Spg w s b k z oo) (hT : TB w A rs) :
    Calls Try.prog 28 #[.pointer (some ⟨s, 0, none⟩), .slice A N c, Gp a (a + 1)] w (RootIs (rootD (digL p k) (rowF rs) a 1) w) := by
  have hal : a < rs.length := by omega
  have hsl := block_lt_of_cell G.c0
  obtain ⟨ad, A1, n1, c1, rfl, hb1, hc1, hl1, hn1, hs1, hi1⟩ := hT a hal
  have hrl := hR _ (List.getElem_mem hal)
  rw [rootD_one _ _ _ (by omega), rowF_at hal]
  generalize rs[a] = row at hl1 hs1 hi1 hrl
  have hB0 : Below w.heap.size w (w.alloc (.cells #[vi a, vi ((a : Int) + 1)] 54)) := (Below.refl _ _).alloc (Nat.le_refl _) _
  obtain ⟨W, hW⟩ : ∃ W, W = w.alloc (.cells #[vi a, vi ((a : Int) + 1)] 54) := ⟨_, rfl⟩
  have hB := Blk.new w 54 #[vi a, vi ((a : Int) + 1)]
  rw [← hW] at hB hB0
  have hc1W := (hB0.cell (p := ad.add a) hb1).trans hc1
  have e0 := (hB.cell 0).trans (show _ = some (vi a) from rfl)
  have e1 := (hB.cell 1).trans (show _ = some (vi ((a : Int) + 1)) from rfl)
  have hb2 : Below W.heap.size W (W.alloc (.cells #[.slice A1 n1 c1] 22)) := (Below.refl _ _).alloc (Nat.le_refl _) _
  have hj := joined_any 0 (some ⟨W.heap.size, 0, none⟩) 1 1 [row] rfl (by omega) (by simp; omega) (W.alloc (.cells #[.slice A1 n1 c1] 22)) (tb_lit1 (hs1.below hB0) hl1 hn1 hi1)
  rw [show [row].flatten = row by simp, show W.heap.size = w.heap.size + 1 by rw [hW]; simp] at hj
  have HJ := Lib.hid hj
  have HB2 := Lib.hid (hB0.trans (hb2.mono hB0.size))
  have HH := Lib.hid (fun W' A' n' c' (hl : (0 :: row).length = n') (F : Fld W' S b p) (G : Spg W' s b k z oo) (hs : SL W' A' (0 :: row)) => hash_any p S b s k z oo A' n' c' (0 :: row) hl (by
    intro x hx
    rcases List.mem_cons.1 hx with rfl | hx
    · constructor <;> omega
    · exact hi1 x hx) (by rw [← hl, List.length_cons]; omega) W' F G hs)
  have HF := Lib.hid F
  have HG := Lib.hid G
  rw [hW] at HJ HB2 hc1W e0 e1
  have a0 : (0 : Int) ≤ (a : Int) := by omega
  have a1 : (a : Int) < (N : Int) := by omega
  have hpm := F.max
  clear hB0 hB hb2 hj hW W F G hT hs1 hi1 hrl hR hN hal
  go_enter Try.func28, Try.ntmps28
  go_wp2_with fail
  refine HJ.out.mono ?_
  rintro _ w2 ⟨v2, rfl, ho2, hb2⟩
  obtain ⟨A2, n2, c2, rfl, hl2, _, _, hs2⟩ := ho2.shapeN
  have hb := HB2.out.trans (hb2.mono HB2.out.size)
  have HX := Lib.hid ((HH.out w2 A2 n2 c2 hl2 (HF.out.below hb HF.out.le) (HG.out.below hb hsl) hs2).mono fun e w' h => (h.root hpm).from hb)
  clear hl2 ho2 hb2 hs2 hb
  go_wp2_with fail
  refine HX.out.mono ?_
  rintro _ w3 ⟨g, rfl, h1, h2, h3, h4, h5, h6⟩
  go_wp2
  go_ret
  exact ⟨g, rfl, h1, h2, h3, h4, h5, h6⟩
set_option maxRecDepth 100000 in
set_option maxHeartbeats 400000 in
theorem troot_any (p S b s k z : Nat) [NeZero p] (oo : Nat → Nat → Fin p) (A : Option Addr) (N c : Nat) (rs : List (List Int)) (hN : rs.length = N) (hN2 : N ≤ 65536) (hR : ∀ l ∈ rs, l.length * 8 + 80 ≤ 140737488355328) :
    ∀ (m a : Nat), 1 ≤ m → a + m ≤ N → ∀ (w : World), Fld w S b p → Spg w s b k z oo → TB w A rs →
    Calls Try.prog 28 #[.pointer (some ⟨s, 0, none⟩), .slice A N c, Gp a (a + m)] w (RootIs (rootD (digL p k) (rowF rs) a m) w) := by
  intro m
  induction m using Nat.strongRecOn with
  | ind m ih =>
    intro a h1 ha w F G hT
    by_cases h2 : 2 ≤ m
    · have hlf := leftN_lt h2
      rw [rootD_two _ _ _ h2]
      have hsl := block_lt_of_cell G.c0
      have hb1 : Below w.heap.size w (w.alloc (.cells #[vi a, vi ((a : Int) + m)] 54)) := (Below.refl _ _).alloc (Nat.le_refl _) _
      have hh := halves_any a m h2 (by omega) (w.alloc (.cells #[vi a, vi ((a : Int) + m)] 54))
      have HH := Lib.hid hh
      have HB1 := Lib.hid hb1
      clear hh hb1
      obtain ⟨j, hj⟩ : ∃ j, j = leftN m := ⟨_, rfl⟩
      rw [← hj] at hlf HH ⊢
      obtain ⟨hj1, hj2, hj3⟩ := hlf
      have t1 : ((m : Int) == 1) = false := by simp; omega
      clear hj
      go_enter Try.func28, Try.ntmps28
      go_wp2_with fail
      refine HH.out.mono ?_
      rintro _ w1 ⟨rfl, hb1⟩
      go_wp2_with fail
      have hb01 : Below w.heap.size w w1 := HB1.out.trans (hb1.mono HB1.out.size)
      obtain ⟨q, hq⟩ : ∃ q, q = w1.heap.size := ⟨_, rfl⟩
      obtain ⟨W2, hW2⟩ : ∃ W2, W2 = (w1.alloc (.cells #[vi a, vi ((a : Int) + j)] 54)).alloc (.cells #[vi ((a : Int) + j), vi ((a : Int) + m)] 54) := ⟨_, rfl⟩
      rw [← hW2, ← hq]
      have hB7 := (Blk.new w1 54 #[vi a, vi ((a : Int) + j)]).alloc (.cells #[vi ((a : Int) + j), vi ((a : Int) + m)] 54)
      have hB8 := Blk.new (w1.alloc (.cells #[vi a, vi ((a : Int) + j)] 54)) 54 #[vi ((a : Int) + j), vi ((a : Int) + m)]
      rw [← hW2, show (w1.alloc (.cells #[vi a, vi ((a : Int) + j)] 54)).heap.size = q + 1 by simp [hq]] at hB8
      rw [← hW2, ← hq] at hB7
      have hb2 : Below w.heap.size w W2 := by rw [hW2]; exact (hb01.alloc hb01.size _).alloc (by have := hb01.size; simp; omega) _
      have HB2 := Lib.hid hb2
      have c70 := (hB7.cell 0).trans (show _ = some (vi a) from rfl)
      have c71 := (hB7.cell 1).trans (show _ = some (vi ((a : Int) + j)) from rfl)
      have c80 := (hB8.cell 0).trans (show _ = some (vi ((a : Int) + j)) from rfl)
      have c81 := (hB8.cell 1).trans (show _ = some (vi ((a : Int) + m)) from rfl)
      have q7 := hB7.lt
      have q8 := hB8.lt
      clear hB7 hB8 hW2 hq hb2 hb1 hb01
      obtain ⟨d1, hd1⟩ : ∃ d, d = rootD (digL p k) (rowF rs) a j := ⟨_, rfl⟩
      obtain ⟨d2, hd2⟩ : ∃ d, d = rootD (digL p k) (rowF rs) (a + j) (m - j) := ⟨_, rfl⟩
      have HD1 := Lib.hid hd1
      have HD2 := Lib.hid hd2
      have I1 := Lib.hid (fun W F G T => by have h := ih j hj1 a hj3 (by omega) W F G T; rw [← hd1] at h; exact h)
      have I2 : Hid (∀ W, Fld W S b p → Spg W s b k z oo → TB W A rs → Calls Try.prog 28 #[.pointer (some ⟨s, 0, none⟩), .slice A N c, .agg #[vi ((a : Int) + j), vi ((a : Int) + m)]] W (RootIs d2 W)) := Lib.hid (fun W F G T => by
        have h := ih (m - j) (by omega) (a + j) (by omega) (by omega) W F G T
        rw [← hd2, show a + j + (m - j) = a + m by omega] at h
        simpa [Gp] using h)
      have HJ := Lib.hid (fun (W : World) (g1 g2 : Nat) (l1 : d1.length = 4) (l2 : d2.length = 4) (i1 : ∀ x ∈ d1, I64 x) (i2 : ∀ x ∈ d2, I64 x) (s1 : SL W (some ⟨g1, 0, none⟩) d1) (s2 : SL W (some ⟨g2, 0, none⟩) d2) =>
        joined_any 1 (some ⟨W.heap.size, 0, none⟩) 2 2 [d1, d2] rfl (by omega) (by simp [l1, l2]) (W.alloc (.cells #[.slice (some ⟨g1, 0, none⟩) 4 4, .slice (some ⟨g2, 0, none⟩) 4 4] 22)) (tb_lit2 s1 l1 (by omega) i1 s2 l2 (by omega) i2))
      rw [show [d1, d2].flatten = d1 ++ d2 by simp] at HJ
      have HHs := Lib.hid (fun W' A' n' c' (l1 : d1.length = 4) (l2 : d2.length = 4) (i1 : ∀ x ∈ d1, I64 x) (i2 : ∀ x ∈ d2, I64 x) (hl : (1 :: (d1 ++ d2)).length = n') (F : Fld W' S b p) (G : Spg W' s b k z oo) (hs : SL W' A' (1 :: (d1 ++ d2))) => (hash_any p S b s k z oo A' n' c' (1 :: (d1 ++ d2)) hl (by
        intro x hx
        rcases List.mem_cons.1 hx with rfl | hx
        · constructor <;> omega
        · rcases List.mem_append.1 hx with hx | hx
          · exact i1 x hx
          · exact i2 x hx) (by rw [← hl]; simp [l1, l2]) W' F G hs).mono fun e w' h => h.root F.max)
      have KX : Hid (∀ W', Below W2.heap.size W2 W' → Fld W' S b p ∧ Spg W' s b k z oo ∧ TB W' A rs) := Lib.hid fun W' hb => by
        have hb' := HB2.out.trans (hb.mono HB2.out.size)
        exact ⟨F.below hb' F.le, G.below hb' hsl, hT.below hb'⟩
      have KS : Hid (∀ W', Below W2.heap.size W2 W' → W'.cell? ⟨q, 0, none⟩ = some (vi a) ∧ W'.cell? ⟨q, 1, none⟩ = some (vi ((a : Int) + j)) ∧ W'.cell? ⟨q + 1, 0, none⟩ = some (vi ((a : Int) + j)) ∧ W'.cell? ⟨q + 1, 1, none⟩ = some (vi ((a : Int) + m))) := Lib.hid fun W' hb =>
        ⟨(hb.cell (p := ⟨q, 0, none⟩) q7).trans c70, (hb.cell (p := ⟨q, 1, none⟩) q7).trans c71, (hb.cell (p := ⟨q + 1, 0, none⟩) q8).trans c80, (hb.cell (p := ⟨q + 1, 1, none⟩) q8).trans c81⟩
      have hb22 : Below W2.heap.size W2 W2.drew := below_drewN (Below.refl _ _) 1
      clear hd1 hd2 F G hT ih hR hN c70 c71 c80 c81
      go_region_held3 (fun w' => w'.cell? ⟨q, 0, none⟩ = some (vi a) ∧ w'.cell? ⟨q, 1, none⟩ = some (vi ((a : Int) + j)) ∧ w'.cell? ⟨q + 1, 0, none⟩ = some (vi ((a : Int) + j)) ∧ w'.cell? ⟨q + 1, 1, none⟩ = some (vi ((a : Int) + m)))
        (first | exact KS.out _ (Below.refl _ _) | exact KS.out _ hb22 | exact KS.out _ hb26 | exact KS.out _ hb25 | exact KS.out _ hb24a | exact KS.out _ hb24 | exact KS.out _ hb23)
        ((first
          | (go_at_call 28; (have hx := hb23; clear hx); refine (I2.out _ (KX.out _ hb23).1 (KX.out _ hb23).2.1 (KX.out _ hb23).2.2).mono ?_; rintro _ w4 ⟨g2, rfl, ⟨x2, y2⟩, s2, l2, i2, n2, hb4⟩; have s1' := s1.below hb4; have hb24 := hb23.trans (hb4.mono hb23.size); have hb24a := hb24.alloc hb24.size (.cells #[.slice (some ⟨g1, 0, none⟩) 4 4, .slice (some ⟨g2, 0, none⟩) 4 4] 22); clear y2 hb4 s1)
          | (go_at_call 28; refine (I1.out _ (KX.out _ hb22).1 (KX.out _ hb22).2.1 (KX.out _ hb22).2.2).mono ?_; rintro _ w3 ⟨g1, rfl, ⟨x1, y1⟩, s1, l1, i1, n1, hb3⟩; have hb23 : Below W2.heap.size W2 w3 := hb22.trans (hb3.mono hb22.size); clear y1 hb3)
          | (go_at_call 56; refine (HJ.out w4 g1 g2 l1 l2 i1 i2 s1' s2).mono ?_; rintro _ w5 ⟨v5, rfl, ho5, hb5⟩; obtain ⟨A5, n5, c5, rfl, hl5, _, _, hs5⟩ := ho5.shapeN; have HL5 := Lib.hid hl5; have hb25 := hb24a.trans (hb5.mono hb24a.size); clear hl5 ho5 hb5)
          | (go_at_call 10; refine ((HHs.out w5 A5 n5 c5 l1 l2 i1 i2 HL5.out (KX.out _ hb25).1 (KX.out _ hb25).2.1 hs5)).mono ?_; rintro _ w6 ⟨g6, rfl, ⟨x6, y6⟩, s6, l6, i6, n6, hb6⟩; have hb26 := hb25.trans (hb6.mono hb25.size); clear hb6)))
      have HFIN : Hid (RootIs (digL p k (1 :: (d1 ++ d2))) w (.returned (.slice (some ⟨g6, 0, none⟩) 4 4)) w6) := Lib.hid ⟨g6, rfl, ⟨_, y6⟩, s6, l6, i6, by have := HB2.out.size; have := hb25.size; omega, HB2.out.trans (hb26.mono HB2.out.size)⟩
      clear y6 s6 l6 i6 n6 hb26 hb25 hb24a hb24 hb23 hb22 l1 l2 i1 i2 s1' s2 n1 n2 hs5 HL5 KS KX HHs HJ I1 I2
      go_wp2
      go_ret
      have hfin := HFIN.out
      rw [HD1.out, HD2.out] at hfin
      exact hfin
    · have e : m = 1 := by omega
      subst e
      exact troot_one p S b s k z oo A N c rs hN hN2 hR a ha w F G hT
end Go.Proofs.Ytmhhgaofilaalaa

/- The reference's Root and Nodes. -/
set_option linter.unusedVariables false
namespace Go.Proofs.Ytmhhgaofilaalaa
open Go.RowKit Zp
theorem rootD_shift {H : List Int → List Int} {r r' : Nat → List Int} {j : Nat} : ∀ (n a : Nat), (∀ i, a ≤ i → i < a + n → r i = r' (i + j)) → 1 ≤ n → rootD H r a n = rootD H r' (a + j) n := by
  intro n
  induction n using Nat.strongRecOn with
  | ind n ih =>
    intro a h hn
    by_cases h2 : 2 ≤ n
    · have hl := leftN_lt h2
      rw [rootD_two H r a h2, rootD_two H r' (a + j) h2, ih (leftN n) (by omega) a (fun i h1 h2 => h i h1 (by omega)) (by omega), ih (n - leftN n) (by omega) (a + leftN n) (fun i h1 h2 => h i (by omega) (by omega)) (by omega)]
      rw [show a + leftN n + j = a + j + leftN n by omega]
    · have e : n = 1 := by omega
      subst e
      rw [rootD_one H r a h2, rootD_one H r' (a + j) h2, h a (Nat.le_refl _) (by omega)]
theorem rowF_take {ls : List (List Int)} {i j : Nat} (h : i < j) : rowF (ls.take j) i = rowF ls i := by
  unfold rowF
  rw [List.getD_eq_getElem?_getD, List.getD_eq_getElem?_getD, List.getElem?_take, if_pos h]
theorem rowF_drop {ls : List (List Int)} {i j : Nat} : rowF (ls.drop j) i = rowF ls (i + j) := by
  unfold rowF
  rw [List.getD_eq_getElem?_getD, List.getD_eq_getElem?_getD, List.getElem?_drop, Nat.add_comm]
theorem rootD_halves {H : List Int → List Int} {ls : List (List Int)} {n : Nat} (h2 : 2 ≤ n) : rootD H (rowF ls) 0 n = H (1 :: (rootD H (rowF (ls.take (leftN n))) 0 (leftN n) ++ rootD H (rowF (ls.drop (leftN n))) 0 (n - leftN n))) := by
  have hl := leftN_lt h2
  rw [rootD_two H _ 0 h2, rootD_shift (r := rowF (ls.take (leftN n))) (r' := rowF ls) (j := 0) (leftN n) 0 (fun i _ hi => by rw [rowF_take (by omega)]; rfl) (by omega),
    rootD_shift (r := rowF (ls.drop (leftN n))) (r' := rowF ls) (j := leftN n) (n - leftN n) 0 (fun i _ hi => by rw [rowF_drop]) (by omega)]
theorem TB.take {w : World} {A : Option Addr} {ls : List (List Int)} (h : TB w A ls) (j : Nat) : TB w A (ls.take j) := fun k hk => by
  have hk' : k < ls.length := by rw [List.length_take] at hk; omega
  obtain ⟨ad, A1, n, c, h1, h2, h3, h4, h5⟩ := h k hk'
  have e : (ls.take j)[k] = ls[k] := by simp
  rw [e]
  exact ⟨ad, A1, n, c, h1, h2, h3, h4, h5⟩
theorem TB.drop {w : World} {ad : Addr} {ls : List (List Int)} (h : TB w (some ad) ls) (j : Nat) : TB w (some (ad.add j)) (ls.drop j) := fun k hk => by
  have hk' : j + k < ls.length := by rw [List.length_drop] at hk; omega
  obtain ⟨ad', A1, n, c, h1, h2, h3, h4, h5⟩ := h (j + k) hk'
  injection h1 with h1
  subst h1
  have e : (ls.drop j)[k] = ls[j + k] := by simp
  rw [e]
  exact ⟨ad.add j, A1, n, c, rfl, by rw [add_of_add]; exact h2, by rw [add_of_add]; exact h3, h4, h5⟩
/-- a digest, in a block of ints -/
def RRootIs (l : List Int) (w : World) (e : Ending) (w' : World) : Prop :=
  ∃ g cap : Nat, e = .returned (.slice (some ⟨g, 0, none⟩) 4 cap) ∧ (∃ cs, Blk w' g 3 cs) ∧ SL w' (some ⟨g, 0, none⟩) l ∧ l.length = 4 ∧ (∀ x ∈ l, I64 x) ∧ w.heap.size ≤ g ∧ Below w.heap.size w w'
/-- rows of four numbers, each in a block that is none of rows -/
def UsAt (w : World) (us : List Value) (ls : List (List Int)) : Prop :=
  us.length = ls.length ∧ ∀ k (h : k < us.length) (h' : k < ls.length), ∃ (g c : Nat) (t : TypeId) (cs : Array Value), us[k] = .slice (some ⟨g, 0, none⟩) 4 c ∧ Blk w g t cs ∧ t ≠ 22 ∧ t ≠ 25 ∧ SL w (some ⟨g, 0, none⟩) ls[k] ∧ ls[k].length = 4 ∧ ∀ x ∈ ls[k], I64 x
theorem UsAt.nil (w : World) : UsAt w [] [] := ⟨rfl, fun k h => absurd h (by simp)⟩
theorem UsAt.below {w w' : World} {us : List Value} {ls : List (List Int)} (h : UsAt w us ls) (hb : Below w.heap.size w w') : UsAt w' us ls := ⟨h.1, fun k h1 h2 => by
  obtain ⟨g, c, t, cs, e1, e2, e3, e4, e5, e6⟩ := h.2 k h1 h2
  exact ⟨g, c, t, cs, e1, Blk.below e2 hb e2.lt, e3, e4, e5.below hb, e6⟩⟩
theorem UsAt.app {w : World} {us vs : List Value} {ls ms : List (List Int)} (h : UsAt w us ls) (h' : UsAt w vs ms) : UsAt w (us ++ vs) (ls ++ ms) := by
  refine ⟨by rw [List.length_append, List.length_append, h.1, h'.1], fun k h1 h2 => ?_⟩
  by_cases hk : k < us.length
  · rw [List.getElem_append_left hk, List.getElem_append_left (by rw [← h.1]; exact hk)]
    exact h.2 k hk (by rw [← h.1]; exact hk)
  · rw [List.length_append] at h1
    rw [List.getElem_append_right (by omega), List.getElem_append_right (by rw [← h.1]; omega)]
    have e : k - ls.length = k - us.length := by rw [h.1]
    simp only [e]
    exact h'.2 (k - us.length) (by omega) (by rw [← h'.1]; omega)
theorem UsAt.one {w : World} {g c : Nat} {t : TypeId} {cs : Array Value} {l : List Int} (h1 : Blk w g t cs) (h2 : t ≠ 22) (h3 : t ≠ 25) (h4 : SL w (some ⟨g, 0, none⟩) l) (h5 : l.length = 4) (h6 : ∀ x ∈ l, I64 x) : UsAt w [.slice (some ⟨g, 0, none⟩) 4 c] [l] :=
  ⟨rfl, fun k hk hk' => by
    have e : k = 0 := by simp at hk; omega
    subst e
    exact ⟨g, c, t, cs, rfl, h1, h2, h3, h4, h5, h6⟩⟩
/-- kept while a block of rows, or the struct, is turned -/
theorem UsAt.far {w w' : World} {us : List Value} {ls : List (List Int)} {x : Nat} {tx : TypeId} {cx : Array Value} (h : UsAt w us ls) (hx : Blk w x tx cx) (ht : tx = 22 ∨ tx = 25) (hg : w.grownBy w' (some x)) : UsAt w' us ls := ⟨h.1, fun k h1 h2 => by
  obtain ⟨g, c, t, cs, e1, e2, e3, e4, e5, e6⟩ := h.2 k h1 h2
  have hgx : g ≠ x := Blk.ne_ e2 hx (by rcases ht with rfl | rfl; exact e3; exact e4)
  exact ⟨g, c, t, cs, e1, Blk.grown e2 hg (by intro e; injection e with e; exact hgx e), e3, e4, e5.far hg hgx, e6⟩⟩
theorem ownR_blk {w : World} {base : Nat} {v : Value} {us : List Value} (h : OwnR w base v us) {g : Nat} (hg : v.ownBlock = some g) : ∃ cs, Blk w g 22 cs := by
  rcases h.2 with ⟨rfl, _⟩ | ⟨g', cap, cur, rfl, _, hh, _⟩
  · cases hg
  · injection hg with hg
    subst hg
    exact ⟨cur, hh⟩
theorem UsAt.grew {w w' : World} {base : Nat} {v v' : Value} {us vs ws : List Value} {ls : List (List Int)} (h : GrewR w w' base v v' us) (ho : OwnR w base v vs) (hr : UsAt w ws ls) : UsAt w' ws ls := by
  rcases hv : v.ownBlock with _ | g
  · have hg := h.grown
    rw [hv] at hg
    exact hr.below ⟨hg.os, hg.tape, hg.output, hg.size, fun i hi => hg.block i hi (by intro e; cases e)⟩
  · obtain ⟨cs, hcs⟩ := ownR_blk ho hv
    exact hr.far hcs (.inl rfl) (by rw [← hv]; exact h.grown)
theorem tb_us {w : World} {base : Nat} {A : Option Addr} {n c : Nat} {us : List Value} {ls : List (List Int)} (h : OwnR w base (.slice A n c) us) (hr : UsAt w us ls) : TB w A ls := fun k hk => by
  have hku : k < us.length := by rw [hr.1]; exact hk
  have hn : us.length = n := by
    rcases h.2 with ⟨e, h0⟩ | ⟨g, cap, cur, e, _⟩
    · injection e with _ e2 _; omega
    · injection e with _ e2 _; exact e2.symm
  subst hn
  have hrd := Reads.of_own h
  obtain ⟨ad, u, e1, e2, e3, e4⟩ := Reads.at_ (k := k) hrd (by omega)
  have e5 : u = us[k] := by
    rw [List.getElem?_eq_getElem hku] at e3
    injection e3 with e3
    exact e3.symm
  obtain ⟨g, c1, t, cs, f1, f2, f3, f4, f5, f6, f7⟩ := hr.2 k hku hk
  exact ⟨ad, some ⟨g, 0, none⟩, 4, c1, e1, by rw [block_of_add]; exact e2, by rw [e4, e5, f1], f6, by omega, f5, f7⟩
/-- append of a whole slice of rows -/
theorem run_appRR (w : World) (base : Nat) (v : Value) (us : List Value) (A : Option Addr) (m c : Nat) (vs : List Value) (hm : vs.length = m) (hown : OwnR w base v us) (hr : Reads w w.heap.size 1 A m vs) (h1 : ∀ u ∈ vs, u.oneCell' = true) (hlen : us.length + m ≤ 5864062014805) (hbase : base ≤ w.heap.size) (ty : TypeId) :
    ∃ v' w', (Builtin.append_ #[23, 23] ty #[v, .slice A m c]).run Try.prog w = .ok v' w' ∧ GrewR w w' base v v' (us ++ vs) := by
  subst hm
  obtain ⟨i0, hi, hz0, hz1, hz2⟩ := info_parts info_ints
  obtain ⟨v', w', hrun, h2, h3, h4⟩ := run_append_any (P := Try.prog) w base 23 ty 22 i0 _ 1 24 Try.underlying23 hi hz0 hz1 hz2 rfl (by omega) v us.length us hown w.heap.size A vs.length c vs hr h1 (by simp only [maxLen]; omega) (by omega) hbase
  refine ⟨v', w', hrun, ?_, h3⟩
  rw [OwnR, List.length_append]
  exact h2
theorem wpList_appRR {ops : Array Oper} {rest : List Oper} {o : Oper} {a : Act} {Q : Exit → Act → World → Prop} (w : World) (hgd : o.guard = none) (s x : Operand)
    (ho : o.op = .call { callee := .builtin .append, args := #[s, x], argTypes := #[23, 23] })
    (base : Nat) (v : Value) (us : List Value) (A : Option Addr) (m c : Nat) (vs : List Value) (hs : a.eval s = v) (hx : a.eval x = .slice A m c) (hm : vs.length = m) (hown : OwnR w base v us) (hr : Reads w w.heap.size 1 A m vs) (h1 : ∀ u ∈ vs, u.oneCell' = true) (hlen : us.length + m ≤ 5864062014805) (hbase : base ≤ w.heap.size)
    (h : ∀ v' w', GrewR w w' base v v' (us ++ vs) → wpList Try.prog ops Q rest (a.put o.dst v') w') : wpList Try.prog ops Q (o :: rest) a w :=
  wpList_plain hgd fun _ hK => by
    obtain ⟨v', w', hrun, hg⟩ := run_appRR w base v us A m c vs hm hown hr h1 hlen hbase o.type
    unfold Oper.wp execOp
    simp only [ho, resolve, invoke, builtin, Sem.run_bind, Sem.run_pure, Result.andThen_ok, List.map_toArray, List.map_cons, List.map_nil, hs, hx, hrun]
    exact hK _ _ (h v' w' hg)
theorem UsAt.one' {w : World} {us : List Value} {ls : List (List Int)} (h : UsAt w us ls) : ∀ u ∈ us, u.oneCell' = true := fun u hu => by
  obtain ⟨k, hk, rfl⟩ := List.mem_iff_getElem.1 hu
  obtain ⟨g, c, t, cs, e1, _⟩ := h.2 k hk (by rw [← h.1]; exact hk)
  rw [e1]; rfl
end Go.Proofs.Ytmhhgaofilaalaa

/- The reference's Nodes. -/
set_option linter.unusedVariables false
namespace Go.Proofs.Ytmhhgaofilaalaa
open Go.RowKit Zp
/-- nodes of one's own -/
def NodesIs (ls : List (List Int)) (w : World) (e : Ending) (w' : World) : Prop := ∃ v us, e = .returned v ∧ OwnR w' w.heap.size v us ∧ UsAt w' us ls ∧ Below w.heap.size w w'
theorem ownR_lit1 (w : World) (base : Nat) (u : Value) (hb : base ≤ w.heap.size) : OwnR (w.alloc (.cells #[u] 22)) base (.slice (some ⟨w.heap.size, 0, none⟩) 1 1) [u] :=
  World.ownsRow_lit (e := 22) (size := 1) w #[u] 1 hb (by simp [maxLen]) (by simp)
theorem OwnR.moreB {w : World} {base base' : Nat} {v : Value} {us : List Value} (h : OwnR w base v us) (hb : base' ≤ base) : OwnR w base' v us := by
  refine ⟨h.1, ?_⟩
  rcases h.2 with h0 | ⟨g, cap, cur, hv, hg, rest⟩
  · exact .inl h0
  · exact .inr ⟨g, cap, cur, hv, Nat.le_trans hb hg, rest⟩
theorem hidL_le' (l : List Int) : ∀ (m a : Nat), 1 ≤ m → (hidL l a m).length ≤ m := by
  intro m
  induction m using Nat.strongRecOn with
  | ind m ih =>
    intro a hm
    by_cases hs : shownB l a m = true
    · by_cases h : 2 ≤ m
      · have hl := leftN_lt h
        rw [show hidL l a m = hidL l a (leftN m) ++ hidL l (a + leftN m) (m - leftN m) by rw [hidL, if_pos hs, dif_pos h], List.length_append]
        have := ih (leftN m) (by omega) a (by omega)
        have := ih (m - leftN m) (by omega) (a + leftN m) (by omega)
        omega
      · rw [hidL, if_pos hs, dif_neg h]; simp
    · rw [hidL, if_neg hs]; simpa using hm
end Go.Proofs.Ytmhhgaofilaalaa

/- The reference's Once: places ascending, each once. -/
set_option linter.unusedVariables false
namespace Zp
theorem insU_len (x : Int) : ∀ l : List Int, (insU x l).length ≤ l.length + 1
  | [] => by simp [insU]
  | a :: l => by
    unfold insU
    split
    · simp
    · split
      · simp
      · have := insU_len x l; simp; omega
theorem onceL_len : ∀ l : List Int, (onceL l).length ≤ l.length
  | [] => by simp [onceL]
  | a :: l => by
    have h1 := insU_len a (onceL l)
    have h2 := onceL_len l
    show (insU a (onceL l)).length ≤ l.length + 1
    omega
/-- may a number come next behind t of them? -/
def Cand (S : List Int) (t : Nat) (x : Int) : Prop := ∀ j (h : j < S.length), j < t → S[j] < x
theorem cand_zero (S : List Int) (x : Int) : Cand S 0 x := fun j _ h => absurd h (Nat.not_lt_zero _)
theorem cand_succ {S : List Int} (hS : Asc S) {t : Nat} (ht : t < S.length) (x : Int) : Cand S (t + 1) x ↔ S[t] < x := by
  constructor
  · intro h; exact h t ht (Nat.lt_succ_self _)
  · intro h j hj hjt
    have := hS.at_le (i := j) (j := t) (by omega) ht
    omega
theorem cand_in {l : List Int} {t : Nat} {x : Int} (hx : x ∈ l) (h : Cand (onceL l) t x) : ∃ j, ∃ hj : j < (onceL l).length, t ≤ j ∧ (onceL l)[j] = x := by
  obtain ⟨j, hj, e⟩ := List.mem_iff_getElem.1 ((mem_onceL x l).2 hx)
  refine ⟨j, hj, ?_, e⟩
  rcases Nat.lt_or_ge j t with h1 | h1
  · have := h j hj h1; omega
  · exact h1
theorem cand_none {l : List Int} {t : Nat} (h : ∀ x ∈ l, ¬ Cand (onceL l) t x) (ht : t ≤ (onceL l).length) : t = (onceL l).length := by
  rcases Nat.lt_or_ge t (onceL l).length with h1 | h1
  · exfalso
    refine h (onceL l)[t] ((mem_onceL _ l).1 (List.getElem_mem h1)) fun j hj hjt => (asc_onceL l).at_lt hjt h1
  · omega
theorem cand_min {l : List Int} {t : Nat} {y : Int} (hy : y ∈ l) (hc : Cand (onceL l) t y) (hm : ∀ x ∈ l, Cand (onceL l) t x → y ≤ x) : ∃ h : t < (onceL l).length, (onceL l)[t] = y := by
  obtain ⟨j, hj, htj, e⟩ := cand_in hy hc
  have ht : t < (onceL l).length := by omega
  refine ⟨ht, ?_⟩
  have h1 := (asc_onceL l).at_le htj hj
  have h2 := hm (onceL l)[t] ((mem_onceL _ l).1 (List.getElem_mem ht)) fun j hj hjt => (asc_onceL l).at_lt hjt ht
  omega
/-- the best of the first i -/
def Best (l : List Int) (t i : Nat) (b : Int) : Prop :=
  (b = -1 ∧ ∀ j (h : j < l.length), j < i → ¬ Cand (onceL l) t l[j]) ∨
  (∃ m : Nat, ∃ h : m < l.length, m < i ∧ b = m ∧ Cand (onceL l) t l[m] ∧ ∀ j (h' : j < l.length), j < i → Cand (onceL l) t l[j] → l[m] ≤ l[j])
theorem Best.zero (l : List Int) (t : Nat) : Best l t 0 (-1) := .inl ⟨rfl, fun j _ h => absurd h (Nat.not_lt_zero _)⟩
theorem Best.skip {l : List Int} {t i : Nat} {b : Int} (h : Best l t i b) (hi : i < l.length) (hc : ¬ Cand (onceL l) t l[i]) : Best l t (i + 1) b := by
  rcases h with ⟨e, h⟩ | ⟨m, hm, hmi, e, h1, h2⟩
  · refine .inl ⟨e, fun j hj hji => ?_⟩
    by_cases h3 : j < i
    · exact h j hj h3
    · obtain rfl : j = i := by omega
      exact hc
  · refine .inr ⟨m, hm, by omega, e, h1, fun j hj hji hcj => ?_⟩
    by_cases h3 : j < i
    · exact h2 j hj h3 hcj
    · obtain rfl : j = i := by omega
      exact absurd hcj hc
theorem Best.first {l : List Int} {t i : Nat} {b : Int} (h : Best l t i b) (hb : b < 0) (hi : i < l.length) (hc : Cand (onceL l) t l[i]) : Best l t (i + 1) i := by
  rcases h with ⟨e, h⟩ | ⟨m, hm, hmi, e, h1, h2⟩
  · refine .inr ⟨i, hi, by omega, rfl, hc, fun j hj hji hcj => ?_⟩
    by_cases h3 : j < i
    · exact absurd hcj (h j hj h3)
    · obtain rfl : j = i := by omega
      exact Int.le_refl _
  · omega
theorem Best.less {l : List Int} {t i m : Nat} (h : Best l t i m) (hm : m < l.length) (hi : i < l.length) (hc : Cand (onceL l) t l[i]) (hlt : l[i] < l[m]) : Best l t (i + 1) i := by
  rcases h with ⟨e, h⟩ | ⟨m', hm', hmi, e, h1, h2⟩
  · omega
  · obtain rfl : m = m' := by omega
    refine .inr ⟨i, hi, by omega, rfl, hc, fun j hj hji hcj => ?_⟩
    by_cases h3 : j < i
    · have := h2 j hj h3 hcj; omega
    · obtain rfl : j = i := by omega
      exact Int.le_refl _
theorem Best.keep {l : List Int} {t i m : Nat} (h : Best l t i m) (hm : m < l.length) (hi : i < l.length) (hge : ¬ l[i] < l[m]) : Best l t (i + 1) m := by
  rcases h with ⟨e, h⟩ | ⟨m', hm', hmi, e, h1, h2⟩
  · omega
  · obtain rfl : m = m' := by omega
    refine .inr ⟨m, hm, by omega, rfl, h1, fun j hj hji hcj => ?_⟩
    by_cases h3 : j < i
    · exact h2 j hj h3 hcj
    · obtain rfl : j = i := by omega
      omega
theorem Best.lo {l : List Int} {t i : Nat} {b : Int} (h : Best l t i b) : b = -1 ∨ ∃ m : Nat, b = m ∧ m < l.length := by
  rcases h with ⟨e, _⟩ | ⟨m, hm, _, e, _⟩
  · exact .inl e
  · exact .inr ⟨m, e, hm⟩
theorem Best.none {l : List Int} {t i : Nat} (h : Best l t i (-1)) (hi : l.length ≤ i) (ht : t ≤ (onceL l).length) : t = (onceL l).length := by
  rcases h with ⟨_, h⟩ | ⟨m, hm, _, e, _⟩
  · refine cand_none (fun x hx => ?_) ht
    obtain ⟨j, hj, rfl⟩ := List.mem_iff_getElem.1 hx
    exact h j hj (by omega)
  · omega
theorem Best.some {l : List Int} {t i m : Nat} (h : Best l t i m) (hm : m < l.length) (hi : l.length ≤ i) : ∃ h : t < (onceL l).length, (onceL l)[t] = l[m] := by
  rcases h with ⟨e, h⟩ | ⟨m', hm', hmi, e, h1, h2⟩
  · omega
  · obtain rfl : m = m' := by omega
    refine cand_min (List.getElem_mem hm) h1 fun x hx hc => ?_
    obtain ⟨j, hj, rfl⟩ := List.mem_iff_getElem.1 hx
    exact h2 j hj (by omega) hc
end Zp
namespace Go.Proofs.Ytmhhgaofilaalaa
open Go.RowKit Zp
end Go.Proofs.Ytmhhgaofilaalaa

/- The walk of the reference's Once. -/
set_option linter.unusedVariables false
namespace Go.Proofs.Ytmhhgaofilaalaa
open Go.RowKit Zp
theorem drewN_add' (w : World) (m n : Nat) : (w.drewN m).drewN n = w.drewN (m + n) := by simp [World.drewN, Nat.add_assoc]
end Go.Proofs.Ytmhhgaofilaalaa

/- What a row of a slice of slices weighs at most. -/
set_option linter.unusedVariables false
namespace Go.Proofs.Ytmhhgaofilaalaa
open Go.RowKit Go.ChangeShapes

theorem weightsAll_mem {H : Type} {P : Program} {e : TypeId} {d : DataW H} {n : Nat} : ∀ {l : List (DataW H)}, d ∈ l → n ∈ d.weights P e → n ∈ DataW.weightsAll P e l
  | x :: l, hd, hn => by
    simp only [DataW.weightsAll, List.mem_append]
    rcases List.mem_cons.1 hd with rfl | h
    · exact .inl hn
    · exact .inr (weightsAll_mem h hn)
theorem sized_row {H : Type} {P : Program} {ts : List TypeId} {ds : List (DataW H)} (h : (DataW.weightsEach P ts ds).all (· ≤ reachBytes) = true) {j : Nat} {t e q : TypeId} {elems spare el sp : List (DataW H)} (ht : ts[j]? = some t) (hd : ds[j]? = some (.slice elems spare)) (hu : P.underlying t = some (.slice e)) (hv : P.underlying e = some (.slice q))
    (hm : .slice el sp ∈ elems) : (el.length + sp.length) * P.bytesOf q ≤ reachBytes := by
  have h1 : (el.length + sp.length) * P.bytesOf q ∈ DataW.weights P e (.slice el sp) := by simp [DataW.weights, hv]
  have h2 := weightsAll_mem hm h1
  have := List.all_eq_true.1 h _ (DataW.weights_mem_each ht hd _ (by simp only [DataW.weights, hu]; exact List.mem_cons_of_mem _ (List.mem_append_left _ h2)))
  simpa using this

theorem bytesI : Try.prog.bytesOf 3 = 8 := by kernel_rfl
theorem bytesR : Try.prog.bytesOf 22 = 24 := by kernel_rfl
/-- rows that came in, each of a length that memory holds -/
structure ArgMS (w : World) (A : Option Addr) (n c : Nat) (ts : List (List Int)) : Prop where
  m : ArgM w A n c ts
  n24 : n ≤ 5864062014805
  r8 : ∀ t ∈ ts, t.length * 8 ≤ 140737488351232
theorem ArgMS.rows {w : World} {A : Option Addr} {n c : Nat} {ts : List (List Int)} (h : ArgMS w A n c ts) : ∀ t ∈ ts, t.length ≤ 17592186044416 := fun t ht => by have := h.r8 t ht; omega
theorem ArgMS.nil (w : World) : ArgMS w none 0 0 [] := ⟨ArgM.nil _, by omega, by simp⟩
theorem ArgMS.i64 {w : World} {A : Option Addr} {n c : Nat} {ts : List (List Int)} (h : ArgMS w A n c ts) : ∀ t ∈ ts, ∀ x ∈ t, I64 x := fun t ht => by
  obtain ⟨k, hk, rfl⟩ := List.mem_iff_getElem.1 ht
  obtain ⟨_, _, _, _, _, _, _, _, _, _, hi⟩ := h.m.tb k hk
  exact hi
theorem ArgMS.mk_ {H : Type} {tys : List TypeId} {ds : List (DataW H)} (hsz : (DataW.weightsEach Try.prog tys ds).all (· ≤ reachBytes) = true) {j : Nat} (ht : tys[j]? = some 23) {w : World} {a : Addr} {len cap : Nat} {A : Nat → Option Addr} {L C : Nat → Nat} {Z : Nat → List Int}
    (hd : ds[j]? = some (.slice ((List.range len).map fun r => Go.Deep.intRow .i64 (A r) (L r) (Z r)) ((List.range (cap - len)).map fun j => Go.Deep.intRow .i64 (A (len + j)) (L (len + j)) (Z (len + j))))) (hl : len ≤ cap) (hm : cap ≤ maxLen)
    (h : ∀ r, r < cap → w.cell? (a.add r) = some (.slice (A r) (L r) (C r)) ∧ L r ≤ C r ∧ C r ≤ maxLen ∧ (Z r).length = C r ∧ (∀ n ∈ Z r, (Lit.int .i64 n).wf = true) ∧ (A r = none → C r = 0) ∧
        ∀ a', A r = some a' → 0 ≤ a'.block ∧ ∀ c, c < C r → w.cell? (a'.add c) = some (.int .i64 ((Z r).getD c 0))) :
    ArgMS w (some a) len cap ((List.range len).map fun r => (Z r).take (L r)) := by
  refine ⟨ArgM.mk_ hl hm h, ?_, fun t hmem => ?_⟩
  · have h1 := sized_slice hsz (j := j) (t := 23) (e := 22) ht hd Try.underlying23
    rw [bytesR] at h1
    simp only [List.length_map, List.length_range, reachBytes] at h1
    omega
  · obtain ⟨r, hr, rfl⟩ := List.mem_map.1 hmem
    have hr' := List.mem_range.1 hr
    obtain ⟨_, h2, _, h4, _, h6, _⟩ := h r (by omega)
    rw [List.length_take]
    cases hA : A r with
    | none => have := h6 hA; omega
    | some a' =>
      have hin : DataW.slice (H := H) (lits .i64 ((Z r).take (L r))) (lits .i64 ((Z r).drop (L r))) ∈ (List.range len).map fun r => Go.Deep.intRow .i64 (A r) (L r) (Z r) :=
        List.mem_map.2 ⟨r, hr, by simp only [Go.Deep.intRow, hA]⟩
      have h1 := sized_row hsz (j := j) ht hd Try.underlying23 Try.underlying22 hin
      rw [bytesI] at h1
      simp only [lits, List.length_map, List.length_take, List.length_drop, reachBytes] at h1
      omega
end Go.Proofs.Ytmhhgaofilaalaa

/- Walks: same.Copied, Rows, Opened, Openings. -/
set_option linter.unusedVariables false
namespace Go.Proofs.Ytmhhgaofilaalaa
open Go.RowKit Zp
end Go.Proofs.Ytmhhgaofilaalaa
