/- A bundle of texts: Tg, Bs, Bl, Ts, Tr, Cp, Mp, Gk, Th, Wy, Hd. -/
import Derived.Test.YtijhajkakmohnaaGreatDoorB00
import Derived.Test.YtijhajkakmohnaaGreatDoorB01
import Derived.IntWalk
import Derived.BigQuiet
import Derived.WalkArith
import Derived.Lib.Walk
import Derived.Deep.LoopGhost
import Derived.Deep.Draws
import Derived.Test.YtijhajkakmohnaaGreatDoorB04
import Derived.Deep.QuietTactic
import Derived.Deep.RegionHeld3
import Derived.Test.YtijhajkakmohnaaGreatDoorB03
import Derived.Maps.Own
import Derived.WideKeyEntry
import Derived.DeepKeys4
/- Walks of package tree: the halves of a group. -/
set_option linter.unusedVariables false
namespace Go.Proofs.YtijhajkakmohnaaGreatDoor
open Go.RowKit Zp
/-- a group of rows, from a, up to c -/
abbrev Gp (a c : Nat) : Value := .agg #[vi a, vi c]
def IsPw (M : Nat) : Prop := ∃ j : Nat, M = 2 ^ j
theorem IsPw.dbl {M : Nat} (h : IsPw M) : IsPw (2 * M) := by
  obtain ⟨j, rfl⟩ := h
  exact ⟨j + 1, by rw [Nat.pow_succ]; omega⟩
theorem IsPw.pos {M : Nat} (h : IsPw M) : 0 < M := by
  obtain ⟨j, rfl⟩ := h
  exact Nat.pow_pos (by omega)
theorem IsPw.left {M n : Nat} (h : IsPw M) (h1 : M < n) (h2 : n ≤ 2 * M) : M = leftN n := by
  obtain ⟨j, rfl⟩ := h
  exact leftN_of h1 h2
def LeftRel (n : Nat) (v : Value) : Prop := ∃ M : Nat, v = vi ((M : Nat) : Int) ∧ M < n ∧ IsPw M
set_option maxRecDepth 100000 in
set_option maxHeartbeats 2000000 in
theorem halves_any (a n : Nat) (hn1 : 2 ≤ n) (hn : a + n ≤ 65536) (w : World) :
    Calls Tryz.prog 104 #[Gp a (a + n)] w fun e w' => e = .returned (.tuple #[Gp a (a + leftN n), Gp (a + leftN n) (a + n)]) ∧ Below w.heap.size w w' := by
  have hbA : Below w.heap.size w (w.alloc (.cells #[vi a, vi ((a + n : Nat) : Int)] 92)) := (Below.refl _ _).alloc (Nat.le_refl _) _
  have hB := Blk.new w 92 #[vi a, vi ((a + n : Nat) : Int)]
  have e0 := (hB.cell 0).trans (show _ = some (vi a) from rfl)
  have e1 := (hB.cell 1).trans (show _ = some (vi ((a + n : Nat) : Int)) from rfl)
  go_enter Tryz.func104, Tryz.ntmps104
  go_wp2
  go_loop [4] (fun v => LeftRel n v) (fun v => n - (intOf v).toNat)
  case atStart => exact ⟨1, rfl, by omega, 0, rfl⟩
  case round =>
    obtain ⟨M, rfl, hM, hpw⟩ := hrel
    have hp := hpw.pos
    have HPW := Lib.hid hpw
    clear hpw
    by_cases h : 2 * M < n
    · go_wp2
      go_round
      case rel => exact ⟨2 * M, by go_num, h, HPW.out.dbl⟩
      case measure => simp [intOf]; omega
    · have hl : M = leftN n := HPW.out.left hM (by omega)
      have HLE := Lib.hid hl
      clear hl
      go_wp2
      go_region
      go_wp2
      refine bodyPost_ret (v := .tuple #[.agg #[vi a, vi ((a : Int) + M)], .agg #[vi ((a : Int) + M), vi ((a : Int) + n)]]) (by simp [results, Tryz.results104, go_sem]) rfl ⟨?_, ?_⟩
      · have he := HLE.out
        subst he
        simp [Gp]
      · exact below_drewN ((((Below.refl _ _).alloc (Nat.le_refl _) _).alloc (by simp) _).alloc (by simp; omega) _) 1
end Go.Proofs.YtijhajkakmohnaaGreatDoor

/- Walks: slices.BinarySearch at a list of ints that ascends. -/
set_option linter.unusedVariables false
namespace Go.Proofs.YtijhajkakmohnaaGreatDoor
open Go.RowKit Zp
set_option maxRecDepth 100000 in
theorem nan1_any (x : Int) (w : World) : Calls Tryz.prog 181 #[vi x] w fun e w' => e = .returned (.bool false) ∧ w = w' := by
  have t1 : (x != x) = false := by simp
  go_enter Tryz.func181, Tryz.ntmps181
  go_wp2
  go_ret
  exact ⟨rfl, rfl⟩
theorem nan2_any (x : Int) (w : World) : Calls Tryz.prog 171 #[vi x] w fun e w' => e = .returned (.bool false) ∧ w = w' := by
  have t1 : (x != x) = false := by simp
  go_enter Tryz.func171, Tryz.ntmps171
  go_wp2
  go_ret
  exact ⟨rfl, rfl⟩
theorem less_any (x y : Int) (w : World) : Calls Tryz.prog 153 #[vi x, vi y] w fun e w' => e = .returned (.bool (decide (x < y))) ∧ w = w' := by
  have H1 := Lib.hid (fun z w => nan1_any z w)
  go_enter Tryz.func153, Tryz.ntmps153
  go_wp2_with fail
  refine (H1.out _ _).mono ?_
  rintro e w' ⟨rfl, rfl⟩
  go_wp2
  go_ret
  exact ⟨rfl, rfl⟩
end Go.Proofs.YtijhajkakmohnaaGreatDoor

/- Walk: slices.BinarySearch at a list of ints that ascends. -/
set_option linter.unusedVariables false
namespace Go.Proofs.YtijhajkakmohnaaGreatDoor
open Go.RowKit Zp
theorem ret_low {i k : Nat} (h : k = i) (b : Bool) : Ending.returned (.tuple #[.int .i64 (i : Int), .bool b]) = .returned (.tuple #[vi (k : Int), .bool b]) := by rw [h]
set_option maxRecDepth 100000 in
set_option maxHeartbeats 4000000 in
theorem bsearch_any (A : Option Addr) (n c : Nat) (l : List Int) (hml : l.length = n) (hn : n ≤ 4611686018427387903) (hup : Asc l) (t : Int) (w : World) (hs : SL w A l) :
    Calls Tryz.prog 141 #[.slice A n c, vi t] w fun e w' => (∃ b, e = .returned (.tuple #[vi (lowB l t), .bool b])) ∧ w = w' := by
  have H1 := Lib.hid (fun x y w => less_any x y w)
  have H2 := Lib.hid (fun z w => nan2_any z w)
  have HU := Lib.hid hup
  have HM := Lib.hid hml
  have HS := Lib.hid hs
  clear hup hml hs
  go_enter Tryz.func141, Tryz.ntmps141
  go_wp2
  go_loopg [7, 8] n (fun g s7 s8 wr => ∃ lo hi : Nat, s7 = .int .i64 lo ∧ s8 = .int .i64 hi ∧ lo ≤ hi ∧ hi ≤ n ∧ hi - lo ≤ g ∧ w = wr ∧ (∀ j, j < lo → ∀ x, l[j]? = some x → x < t) ∧ (∀ j, hi ≤ j → ∀ x, l[j]? = some x → t ≤ x))
  case atStart => exact ⟨0, n, rfl, rfl, Nat.zero_le _, Nat.le_refl _, by omega, rfl, fun j hj => absurd hj (Nat.not_lt_zero _), fun j hj x hx => by rw [List.getElem?_eq_none (by rw [HM.out]; exact hj)] at hx; cases hx⟩
  case round =>
    obtain ⟨lo, hi, rfl, rfl, hlh, hin, hg, rfl, h1, h2⟩ := hrel
    have I1 := Lib.hid h1
    have I2 := Lib.hid h2
    clear h1 h2
    by_cases hlt : lo < hi
    · obtain ⟨ad, rfl, hadl, hcx⟩ := HS.out.at_ (k := (lo + hi) / 2) (by rw [HM.out]; omega)
      obtain ⟨y, hy⟩ : ∃ y, y = l[(lo + hi) / 2]'(by rw [HM.out]; omega) := ⟨_, rfl⟩
      rw [← hy] at hcx
      have hyg : l[(lo + hi) / 2]? = some y := by rw [hy, List.getElem?_eq_getElem]
      have HY := Lib.hid hyg
      clear hy hyg
      by_cases hyx : y < t
      · go_wp2_with fail
        refine (H1.out _ _ _).mono ?_
        rintro e w' ⟨rfl, rfl⟩
        go_wp2
        go_roundg (hi - ((lo + hi) / 2 + 1))
        case measure => omega
        case rel =>
          refine ⟨(lo + hi) / 2 + 1, hi, by rw [show ((lo : Int) + (hi : Int)) / 2 + 1 = (((lo + hi) / 2 + 1 : Nat) : Int) by omega], rfl, by omega, hin, Nat.le_refl _, rfl, fun j hj x hx => ?_, I2.out⟩
          have hjl : j < l.length := (List.getElem?_eq_some_iff.1 hx).1
          have hml : (lo + hi) / 2 < l.length := (List.getElem?_eq_some_iff.1 HY.out).1
          have := HU.out.at_le (i := j) (j := (lo + hi) / 2) (by omega) hml
          have e1 : l[j] = x := (List.getElem?_eq_some_iff.1 hx).2
          have e2 : l[(lo + hi) / 2] = y := (List.getElem?_eq_some_iff.1 HY.out).2
          omega
      · go_wp2_with fail
        refine (H1.out _ _ _).mono ?_
        rintro e w' ⟨rfl, rfl⟩
        go_wp2
        go_roundg ((lo + hi) / 2 - lo)
        case measure => omega
        case rel =>
          refine ⟨lo, (lo + hi) / 2, rfl, by rw [show ((lo : Int) + (hi : Int)) / 2 = (((lo + hi) / 2 : Nat) : Int) by omega], by omega, by omega, Nat.le_refl _, rfl, I1.out, fun j hj x hx => ?_⟩
          have hjl : j < l.length := (List.getElem?_eq_some_iff.1 hx).1
          have := HU.out.at_le (i := (lo + hi) / 2) (j := j) hj hjl
          have e1 : l[j] = x := (List.getElem?_eq_some_iff.1 hx).2
          have e2 : l[(lo + hi) / 2]'(by omega) = y := (List.getElem?_eq_some_iff.1 HY.out).2
          omega
    · have he : hi = lo := by omega
      subst he
      have HB := Lib.hid (lowB_of (l := l) (t := t) (i := hi) (by rw [HM.out]; exact hin) I1.out (fun x hx => I2.out hi (Nat.le_refl _) x hx))
      by_cases hn2 : hi < n
      · obtain ⟨ad, rfl, hadl, hcx⟩ := HS.out.at_ (k := hi) (by rw [HM.out]; exact hn2)
        generalize l[hi]'(by rw [HM.out]; exact hn2) = y at hcx
        by_cases hyx : y = t
        · go_wp2
          go_ret2
          exact ⟨⟨_, ret_low HB.out _⟩, rfl⟩
        · go_wp2_with (first | (refine (H2.out _ _).mono ?_; rintro e w' ⟨rfl, rfl⟩))
          go_ret2
          exact ⟨⟨_, ret_low HB.out _⟩, rfl⟩
      · go_wp2
        go_ret2
        exact ⟨⟨_, ret_low HB.out _⟩, rfl⟩
end Go.Proofs.YtijhajkakmohnaaGreatDoor

/- Walks of package tree: right, shows, joined, elements. -/
set_option linter.unusedVariables false
namespace Go.Proofs.YtijhajkakmohnaaGreatDoor
open Go.RowKit Zp
def rightB (n : Int) : Bool := decide (1 ≤ n ∧ n ≤ 65536)
theorem right_any (n : Int) (w : World) : Calls Tryz.prog 36 #[vi n] w fun e w' => e = .returned (.bool (rightB n)) ∧ w = w' := by
  by_cases h1 : 1 ≤ n
  · by_cases h2 : n ≤ 65536
    · have HR := Lib.hid (show rightB n = true from decide_eq_true ⟨h1, h2⟩)
      go_enter Tryz.func36, Tryz.ntmps36
      go_wp2
      go_ret
      exact ⟨ret_bool HR.out.symm, rfl⟩
    · have HR := Lib.hid (show rightB n = false from decide_eq_false (fun h => h2 h.2))
      have t1 : decide (n ≤ 65536) = false := by simpa using h2
      go_enter Tryz.func36, Tryz.ntmps36
      go_wp2
      go_ret
      exact ⟨ret_bool HR.out.symm, rfl⟩
  · have HR := Lib.hid (show rightB n = false from decide_eq_false (fun h => h1 h.1))
    have t1 : decide (1 ≤ n) = false := by simpa using h1
    go_enter Tryz.func36, Tryz.ntmps36
    go_wp2
    go_ret
    exact ⟨ret_bool HR.out.symm, rfl⟩
set_option maxRecDepth 100000 in
set_option maxHeartbeats 2000000 in
theorem shows_any (A : Option Addr) (n c : Nat) (l : List Int) (hml : l.length = n) (hn : n ≤ 65536) (hup : Asc l) (a m : Nat) (ham : a + m ≤ 65536) (w : World) (hs : SL w A l) :
    Calls Tryz.prog 109 #[Gp a (a + m), .slice A n c] w fun e w' => e = .returned (.bool (shownB l a m)) ∧ Below w.heap.size w w' := by
  have HB := Lib.hid (shown_low hup a m)
  have hle := lowB_le (a : Int) l
  have hb1 : Below w.heap.size w (w.alloc (.cells #[vi a, vi ((a : Int) + (m : Int))] 92)) := (Below.refl _ _).alloc (Nat.le_refl _) _
  have HS := Lib.hid (bsearch_any A n c l hml (by omega) hup (a : Int) _ (hs.below hb1))
  have hs1 := hs.below hb1
  have hB := Blk.new w 92 #[vi a, vi ((a : Int) + (m : Int))]
  have e0 := (hB.cell 0).trans (show _ = some (vi a) from rfl)
  have e1 := (hB.cell 1).trans (show _ = some (vi ((a : Int) + (m : Int))) from rfl)
  have HB1 := Lib.hid hb1
  obtain ⟨i, hi⟩ : ∃ i, i = lowB l (a : Int) := ⟨_, rfl⟩
  rw [← hi] at HS HB hle
  have HI := Lib.hid hi
  rw [hml] at HB hle
  by_cases h1 : i < n
  · obtain ⟨ad, rfl, hadl, hcx⟩ := hs1.at_ (k := i) (by rw [hml]; exact h1)
    have hy2 : l.getD i 0 = l[i]'(by rw [hml]; exact h1) := by rw [List.getD, List.getElem?_eq_getElem, Option.getD_some]
    rw [hy2] at HB
    generalize l[i]'(by rw [hml]; exact h1) = y at hcx HB
    have i0 : (0 : Int) ≤ (i : Int) := by omega
    have i1 : (i : Int) < (n : Int) := by omega
    have t0 : decide (i < n) = true := by simpa using h1
    by_cases h2 : y < (a : Int) + m
    · have t1 : decide (y < (a : Int) + (m : Int)) = true := by simpa using h2
      have HR := Lib.hid (show shownB l a m = true by rw [HB.out, t0, t1]; rfl)
      clear hi hml hup hs hs1 hb1 hB hy2
      go_enter Tryz.func109, Tryz.ntmps109
      go_wp2_with fail
      refine HS.out.mono ?_
      rintro e w' ⟨⟨b, rfl⟩, rfl⟩
      go_wp2
      go_quiet (fail)
      go_wp2
      go_ret
      exact ⟨ret_bool HR.out.symm, below_drewN HB1.out _⟩
    · have t1 : decide (y < (a : Int) + (m : Int)) = false := by simpa using h2
      have HR := Lib.hid (show shownB l a m = false by rw [HB.out, t0, t1]; rfl)
      clear hi hml hup hs hs1 hb1 hB hy2
      go_enter Tryz.func109, Tryz.ntmps109
      go_wp2_with fail
      refine HS.out.mono ?_
      rintro e w' ⟨⟨b, rfl⟩, rfl⟩
      go_wp2
      go_quiet (fail)
      go_wp2
      go_ret
      exact ⟨ret_bool HR.out.symm, below_drewN HB1.out _⟩
  · have t0 : decide (i < n) = false := by simpa using h1
    have t1 : decide ((i : Int) < (n : Int)) = false := by simp; omega
    have HR := Lib.hid (show shownB l a m = false by rw [HB.out, t0]; rfl)
    clear hi hml hup hs hs1 hb1 hB
    go_enter Tryz.func109, Tryz.ntmps109
    go_wp2_with fail
    refine HS.out.mono ?_
    rintro e w' ⟨⟨b, rfl⟩, rfl⟩
    go_wp2
    go_quiet (fail)
    go_wp2
    go_ret
    exact ⟨ret_bool HR.out.symm, below_drewN HB1.out _⟩
set_option maxRecDepth 100000 in
set_option maxHeartbeats 2000000 in
theorem joined_any (first : Int) (A : Option Addr) (m cap : Nat) (ts : List (List Int)) (hm : ts.length = m) (hmm : m ≤ 1000000) (htot : ts.flatten.length * 8 + 16 ≤ 140737488355328) (w : World) (hT : TB w A ts) :
    Calls Tryz.prog 103 #[vi first, .slice A m cap] w fun e w' => Made (first :: ts.flatten) w e w' := by
  have hba : Below w.heap.size w (w.alloc (.cells #[vi first] 3)) := (Below.refl _ _).alloc (Nat.le_refl _) _
  have hcc := concat_any A m cap ts hm hmm (by omega) _ (hT.below hba)
  have ho1 : Own (w.alloc (.cells #[vi first] 3)) w.heap.size (.slice (some ⟨w.heap.size, 0, none⟩) 1 1) [first] := own_lit w w.heap.size [first] (Nat.le_refl _) (by simp [maxLen])
  obtain ⟨L, hL⟩ : ∃ L, L = ts.flatten := ⟨_, rfl⟩
  have hLl : L.length + 1 ≤ 17592186044416 := by rw [hL]; omega
  rw [← hL] at hcc ⊢
  have HCC := Lib.hid hcc
  have HO1 := Lib.hid ho1
  have HBA := Lib.hid hba
  clear hL hm hmm htot hcc hT hba ho1
  go_enter Tryz.func103, Tryz.ntmps103
  go_wp2_with fail
  refine HCC.out.mono ?_
  rintro _ w2 ⟨v2, rfl, ho2, hb2⟩
  obtain ⟨A2, n2, c2, rfl, hl2, _, _, hs2⟩ := ho2.shapeN
  have ho1' := HO1.out.below hb2
  have hsz : w.heap.size ≤ w2.heap.size := by have := hb2.size; simp at this; omega
  have HL2 := Lib.hid hl2
  have HB2 := Lib.hid (HBA.out.trans (hb2.mono (by simp)))
  rw [hl2] at hLl
  clear hl2 ho2 hb2
  go_wp2_with (at_builtin; refine wpList_appA w2 rfl _ _ rfl w.heap.size _ [first] A2 n2 c2 L rfl rfl HL2.out ho1' hs2 (by simp; omega) hsz ?_; intro v3 w3 hg3)
  go_ret
  exact ⟨v3, rfl, hg3.own, hg3.below HB2.out ho1' (Nat.le_refl _) hsz⟩
def ElemsRel (p : Nat) [NeZero p] (xs : List Int) (w : World) (v i : Value) (wr : World) : Prop := ∃ k : Nat, k ≤ xs.length ∧ i = vi k ∧ Own wr w.heap.size v ((fvs (els p xs)).take k) ∧ Below w.heap.size w wr
theorem take_fvs {p : Nat} [NeZero p] {xs : List Int} {k : Nat} (hk : k < xs.length) : (fvs (els p xs)).take (k + 1) = (fvs (els p xs)).take k ++ [fv (el p xs[k])] := by
  rw [List.take_succ_eq_append_getElem (by simpa [fvs, els] using hk)]; simp [fvs, els]
set_option maxRecDepth 100000 in
set_option maxHeartbeats 2000000 in
theorem elements_any (p b : Nat) [NeZero p] (hp2 : p ≤ 2147483647) (A : Option Addr) (n cap : Nat) (xs : List Int) (hl : xs.length = n) (hxs : ∀ n ∈ xs, I64 n) (hreach : n * 8 ≤ 140737488355328) (w : World) (hs : SL w A xs) (hc : w.cell? ⟨b, 0, none⟩ = some (vi p)) :
    Calls Tryz.prog 44 #[.pointer (some ⟨b, 0, none⟩), .slice A n cap] w fun e w' => Made (fvs (els p xs)) w e w' := by
  have hmk := make_ints0 n (by omega)
  have ho0 := own_made0 w w.heap.size n (Nat.le_refl _) (by omega)
  have hb0 : Below w.heap.size w (w.alloc (.cells (zeros n) 3)) := (Below.refl _ _).alloc (Nat.le_refl _) _
  have hbl := block_lt_of_cell hc
  have HL := Lib.hid hl
  have HO0 := Lib.hid ho0
  have HB0 := Lib.hid hb0
  clear hl ho0 hb0
  go_enter Tryz.func44, Tryz.ntmps44
  go_wp2
  go_loopw [5, 7, 13] (fun v _ i wr => ElemsRel p xs w v i wr) (fun _ _ i _ => n - (intOf i).toNat)
  case atStart => exact ⟨0, Nat.zero_le _, rfl, HO0.out, HB0.out⟩
  case round =>
    obtain ⟨k, hk, rfl, hown, hb⟩ := hrel
    rw [HL.out] at hk
    by_cases hlt : k < n
    · have hkx : k < xs.length := by rw [HL.out]; exact hlt
      obtain ⟨ad, rfl, hab, hcell⟩ := (hs.below hb).at_ hkx
      have hI := hxs _ (List.getElem_mem hkx)
      have hcr := (hb.cell (p := ⟨b, 0, none⟩) hbl).trans hc
      have hts := take_fvs (p := p) hkx
      obtain ⟨x, hx⟩ : ∃ x, x = xs[k] := ⟨_, rfl⟩
      rw [← hx] at hI hcell hts
      have HX := Lib.hid hts
      have HOF := Lib.hid (of_el p hp2 b x hI wr hcr)
      clear hx hts
      have hll : ((fvs (els p xs)).take k).length ≤ k := List.length_take_le _ _
      go_wp2_with fail
      refine HOF.out.mono ?_
      rintro e w' ⟨rfl, rfl⟩
      go_wp2_with (at_builtin; refine wpList_app1 _ (fv (el p x)) rfl _ _ rfl w.heap.size _ _ rfl rfl hown (by omega) hb.size ?_; intro v' w1 hg)
      go_roundw
      case rel => exact ⟨k + 1, by rw [HL.out]; omega, by go_num, by rw [HX.out]; exact hg.own, hg.below hb hown (Nat.le_refl _) hb.size⟩
      case measure => simp [intOf]; omega
    · obtain rfl : k = n := by omega
      go_wp2
      go_ret
      rw [List.take_of_length_le (by simp [fvs, els]; rw [HL.out]; exact Nat.le_refl _)] at hown
      exact ⟨_, rfl, hown, hb⟩
end Go.Proofs.YtijhajkakmohnaaGreatDoor

/- Walks: tree.root, tree.Root. -/
set_option linter.unusedVariables false
namespace Go.Proofs.YtijhajkakmohnaaGreatDoor
open Go.RowKit Zp
/-- the rows by their places -/
def rowF (rs : List (List Int)) (i : Nat) : List Int := rs.getD i []
theorem rowF_at {rs : List (List Int)} {i : Nat} (h : i < rs.length) : rowF rs i = rs[i] := by simp [rowF, h]
/-- a digest is handed back, that lies in a block of its own -/
def RootIs (l : List Int) (w : World) (e : Ending) (w' : World) : Prop :=
  ∃ g : Nat, e = .returned (.slice (some ⟨g, 0, none⟩) 4 4) ∧ (∃ cs, Blk w' g 142 cs) ∧ SL w' (some ⟨g, 0, none⟩) l ∧ l.length = 4 ∧ (∀ x ∈ l, I64 x) ∧ w.heap.size ≤ g ∧ Below w.heap.size w w'
theorem HashIs.root {p k : Nat} [NeZero p] (hm : p ≤ 2147483647) {l : List Int} {w w' : World} {e : Ending} (h : HashIs (digE p k l) w e w') : RootIs (digL p k l) w e w' := by
  obtain ⟨g, h1, h2, h3, h4⟩ := h
  exact ⟨g, h1, ⟨_, h2⟩, dig_sl h2, digL_len _ _, i64_digL hm l, h3, h4⟩
theorem RootIs.from {l : List Int} {w0 w w' : World} {e : Ending} (h : RootIs l w e w') (hb : Below w0.heap.size w0 w) : RootIs l w0 e w' := by
  obtain ⟨g, h1, h2, h3, h4, h5, h6, h7⟩ := h
  exact ⟨g, h1, h2, h3, h4, h5, Nat.le_trans hb.size h6, hb.trans (h7.mono hb.size)⟩
set_option maxRecDepth 100000 in
set_option maxHeartbeats 4000000 in
theorem troot_one (p S b s k z : Nat) [NeZero p] (oo : Nat → Nat → Fin p) (A : Option Addr) (N c : Nat) (rs : List (List Int)) (hN : rs.length = N) (hN2 : N ≤ 65536) (hR : ∀ l ∈ rs, l.length * 8 + 80 ≤ 140737488355328)
    (a : Nat) (ha : a + 1 ≤ N) (w : World) (F : Fld w S b p) (G : Spg w s b k z oo) (hT : TB w A rs) :
    Calls Tryz.prog 37 #[.pointer (some ⟨s, 0, none⟩), .slice A N c, Gp a (a + 1)] w (RootIs (rootD (digL p k) (rowF rs) a 1) w) := by
  have hal : a < rs.length := by omega
  have hsl := block_lt_of_cell G.c0
  obtain ⟨ad, A1, n1, c1, rfl, hb1, hc1, hl1, hn1, hs1, hi1⟩ := hT a hal
  have hrl := hR _ (List.getElem_mem hal)
  rw [rootD_one _ _ _ (by omega), rowF_at hal]
  generalize rs[a] = row at hl1 hs1 hi1 hrl
  have hB0 : Below w.heap.size w (w.alloc (.cells #[vi a, vi ((a : Int) + 1)] 92)) := (Below.refl _ _).alloc (Nat.le_refl _) _
  obtain ⟨W, hW⟩ : ∃ W, W = w.alloc (.cells #[vi a, vi ((a : Int) + 1)] 92) := ⟨_, rfl⟩
  have hB := Blk.new w 92 #[vi a, vi ((a : Int) + 1)]
  rw [← hW] at hB hB0
  have hc1W := (hB0.cell (p := ad.add a) hb1).trans hc1
  have e0 := (hB.cell 0).trans (show _ = some (vi a) from rfl)
  have e1 := (hB.cell 1).trans (show _ = some (vi ((a : Int) + 1)) from rfl)
  have hb2 : Below W.heap.size W (W.alloc (.cells #[.slice A1 n1 c1] 22)) := (Below.refl _ _).alloc (Nat.le_refl _) _
  have hj := joined_any 0 (some ⟨W.heap.size, 0, none⟩) 1 1 [row] rfl (by omega) (by simp; omega) (W.alloc (.cells #[.slice A1 n1 c1] 22)) (tb_lit1 (hs1.below hB0) hl1 hn1 hi1)
  rw [show [row].flatten = row by simp, show W.heap.size = w.heap.size + 1 by rw [hW]; simp] at hj
  have HJ := Lib.hid hj
  have HB2 := Lib.hid (hB0.trans (hb2.mono hB0.size))
  have HH := Lib.hid (fun W' A' n' c' (hl : (0 :: row).length = n') (F : Fld W' S b p) (G : Spg W' s b k z oo) (hs : SL W' A' (0 :: row)) => hash_any p S b s k z oo A' n' c' (0 :: row) hl (by
    intro x hx
    rcases List.mem_cons.1 hx with rfl | hx
    · constructor <;> omega
    · exact hi1 x hx) (by rw [← hl, List.length_cons]; omega) W' F G hs)
  have HF := Lib.hid F
  have HG := Lib.hid G
  rw [hW] at HJ HB2 hc1W e0 e1
  have a0 : (0 : Int) ≤ (a : Int) := by omega
  have a1 : (a : Int) < (N : Int) := by omega
  have hpm := F.max
  clear hB0 hB hb2 hj hW W F G hT hs1 hi1 hrl hR hN hal
  go_enter Tryz.func37, Tryz.ntmps37
  go_wp2_with fail
  refine HJ.out.mono ?_
  rintro _ w2 ⟨v2, rfl, ho2, hb2⟩
  obtain ⟨A2, n2, c2, rfl, hl2, _, _, hs2⟩ := ho2.shapeN
  have hb := HB2.out.trans (hb2.mono HB2.out.size)
  have HX := Lib.hid ((HH.out w2 A2 n2 c2 hl2 (HF.out.below hb HF.out.le) (HG.out.below hb hsl) hs2).mono fun e w' h => (h.root hpm).from hb)
  clear hl2 ho2 hb2 hs2 hb
  go_wp2_with fail
  refine HX.out.mono ?_
  rintro _ w3 ⟨g, rfl, h1, h2, h3, h4, h5, h6⟩
  go_wp2
  go_ret
  exact ⟨g, rfl, h1, h2, h3, h4, h5, h6⟩
set_option maxRecDepth 100000 in
set_option maxHeartbeats 400000 in
theorem troot_any (p S b s k z : Nat) [NeZero p] (oo : Nat → Nat → Fin p) (A : Option Addr) (N c : Nat) (rs : List (List Int)) (hN : rs.length = N) (hN2 : N ≤ 65536) (hR : ∀ l ∈ rs, l.length * 8 + 80 ≤ 140737488355328) :
    ∀ (m a : Nat), 1 ≤ m → a + m ≤ N → ∀ (w : World), Fld w S b p → Spg w s b k z oo → TB w A rs →
    Calls Tryz.prog 37 #[.pointer (some ⟨s, 0, none⟩), .slice A N c, Gp a (a + m)] w (RootIs (rootD (digL p k) (rowF rs) a m) w) := by
  intro m
  induction m using Nat.strongRecOn with
  | ind m ih =>
    intro a h1 ha w F G hT
    by_cases h2 : 2 ≤ m
    · have hlf := leftN_lt h2
      rw [rootD_two _ _ _ h2]
      have hsl := block_lt_of_cell G.c0
      have hb1 : Below w.heap.size w (w.alloc (.cells #[vi a, vi ((a : Int) + m)] 92)) := (Below.refl _ _).alloc (Nat.le_refl _) _
      have hh := halves_any a m h2 (by omega) (w.alloc (.cells #[vi a, vi ((a : Int) + m)] 92))
      have HH := Lib.hid hh
      have HB1 := Lib.hid hb1
      clear hh hb1
      obtain ⟨j, hj⟩ : ∃ j, j = leftN m := ⟨_, rfl⟩
      rw [← hj] at hlf HH ⊢
      obtain ⟨hj1, hj2, hj3⟩ := hlf
      have t1 : ((m : Int) == 1) = false := by simp; omega
      clear hj
      go_enter Tryz.func37, Tryz.ntmps37
      go_wp2_with fail
      refine HH.out.mono ?_
      rintro _ w1 ⟨rfl, hb1⟩
      go_wp2_with fail
      have hb01 : Below w.heap.size w w1 := HB1.out.trans (hb1.mono HB1.out.size)
      obtain ⟨q, hq⟩ : ∃ q, q = w1.heap.size := ⟨_, rfl⟩
      obtain ⟨W2, hW2⟩ : ∃ W2, W2 = (w1.alloc (.cells #[vi a, vi ((a : Int) + j)] 92)).alloc (.cells #[vi ((a : Int) + j), vi ((a : Int) + m)] 92) := ⟨_, rfl⟩
      rw [← hW2, ← hq]
      have hB7 := (Blk.new w1 92 #[vi a, vi ((a : Int) + j)]).alloc (.cells #[vi ((a : Int) + j), vi ((a : Int) + m)] 92)
      have hB8 := Blk.new (w1.alloc (.cells #[vi a, vi ((a : Int) + j)] 92)) 92 #[vi ((a : Int) + j), vi ((a : Int) + m)]
      rw [← hW2, show (w1.alloc (.cells #[vi a, vi ((a : Int) + j)] 92)).heap.size = q + 1 by simp [hq]] at hB8
      rw [← hW2, ← hq] at hB7
      have hb2 : Below w.heap.size w W2 := by rw [hW2]; exact (hb01.alloc hb01.size _).alloc (by have := hb01.size; simp; omega) _
      have HB2 := Lib.hid hb2
      have c70 := (hB7.cell 0).trans (show _ = some (vi a) from rfl)
      have c71 := (hB7.cell 1).trans (show _ = some (vi ((a : Int) + j)) from rfl)
      have c80 := (hB8.cell 0).trans (show _ = some (vi ((a : Int) + j)) from rfl)
      have c81 := (hB8.cell 1).trans (show _ = some (vi ((a : Int) + m)) from rfl)
      have q7 := hB7.lt
      have q8 := hB8.lt
      clear hB7 hB8 hW2 hq hb2 hb1 hb01
      obtain ⟨d1, hd1⟩ : ∃ d, d = rootD (digL p k) (rowF rs) a j := ⟨_, rfl⟩
      obtain ⟨d2, hd2⟩ : ∃ d, d = rootD (digL p k) (rowF rs) (a + j) (m - j) := ⟨_, rfl⟩
      have HD1 := Lib.hid hd1
      have HD2 := Lib.hid hd2
      have I1 := Lib.hid (fun W F G T => by have h := ih j hj1 a hj3 (by omega) W F G T; rw [← hd1] at h; exact h)
      have I2 : Hid (∀ W, Fld W S b p → Spg W s b k z oo → TB W A rs → Calls Tryz.prog 37 #[.pointer (some ⟨s, 0, none⟩), .slice A N c, .agg #[vi ((a : Int) + j), vi ((a : Int) + m)]] W (RootIs d2 W)) := Lib.hid (fun W F G T => by
        have h := ih (m - j) (by omega) (a + j) (by omega) (by omega) W F G T
        rw [← hd2, show a + j + (m - j) = a + m by omega] at h
        simpa [Gp] using h)
      have HJ := Lib.hid (fun (W : World) (g1 g2 : Nat) (l1 : d1.length = 4) (l2 : d2.length = 4) (i1 : ∀ x ∈ d1, I64 x) (i2 : ∀ x ∈ d2, I64 x) (s1 : SL W (some ⟨g1, 0, none⟩) d1) (s2 : SL W (some ⟨g2, 0, none⟩) d2) =>
        joined_any 1 (some ⟨W.heap.size, 0, none⟩) 2 2 [d1, d2] rfl (by omega) (by simp [l1, l2]) (W.alloc (.cells #[.slice (some ⟨g1, 0, none⟩) 4 4, .slice (some ⟨g2, 0, none⟩) 4 4] 22)) (tb_lit2 s1 l1 (by omega) i1 s2 l2 (by omega) i2))
      rw [show [d1, d2].flatten = d1 ++ d2 by simp] at HJ
      have HHs := Lib.hid (fun W' A' n' c' (l1 : d1.length = 4) (l2 : d2.length = 4) (i1 : ∀ x ∈ d1, I64 x) (i2 : ∀ x ∈ d2, I64 x) (hl : (1 :: (d1 ++ d2)).length = n') (F : Fld W' S b p) (G : Spg W' s b k z oo) (hs : SL W' A' (1 :: (d1 ++ d2))) => (hash_any p S b s k z oo A' n' c' (1 :: (d1 ++ d2)) hl (by
        intro x hx
        rcases List.mem_cons.1 hx with rfl | hx
        · constructor <;> omega
        · rcases List.mem_append.1 hx with hx | hx
          · exact i1 x hx
          · exact i2 x hx) (by rw [← hl]; simp [l1, l2]) W' F G hs).mono fun e w' h => h.root F.max)
      have KX : Hid (∀ W', Below W2.heap.size W2 W' → Fld W' S b p ∧ Spg W' s b k z oo ∧ TB W' A rs) := Lib.hid fun W' hb => by
        have hb' := HB2.out.trans (hb.mono HB2.out.size)
        exact ⟨F.below hb' F.le, G.below hb' hsl, hT.below hb'⟩
      have KS : Hid (∀ W', Below W2.heap.size W2 W' → W'.cell? ⟨q, 0, none⟩ = some (vi a) ∧ W'.cell? ⟨q, 1, none⟩ = some (vi ((a : Int) + j)) ∧ W'.cell? ⟨q + 1, 0, none⟩ = some (vi ((a : Int) + j)) ∧ W'.cell? ⟨q + 1, 1, none⟩ = some (vi ((a : Int) + m))) := Lib.hid fun W' hb =>
        ⟨(hb.cell (p := ⟨q, 0, none⟩) q7).trans c70, (hb.cell (p := ⟨q, 1, none⟩) q7).trans c71, (hb.cell (p := ⟨q + 1, 0, none⟩) q8).trans c80, (hb.cell (p := ⟨q + 1, 1, none⟩) q8).trans c81⟩
      have hb22 : Below W2.heap.size W2 W2.drew := below_drewN (Below.refl _ _) 1
      clear hd1 hd2 F G hT ih hR hN c70 c71 c80 c81
      go_region_held3 (fun w' => w'.cell? ⟨q, 0, none⟩ = some (vi a) ∧ w'.cell? ⟨q, 1, none⟩ = some (vi ((a : Int) + j)) ∧ w'.cell? ⟨q + 1, 0, none⟩ = some (vi ((a : Int) + j)) ∧ w'.cell? ⟨q + 1, 1, none⟩ = some (vi ((a : Int) + m)))
        (first | exact KS.out _ (Below.refl _ _) | exact KS.out _ hb22 | exact KS.out _ hb26 | exact KS.out _ hb25 | exact KS.out _ hb24a | exact KS.out _ hb24 | exact KS.out _ hb23)
        ((first
          | (go_at_call 37; (have hx := hb23; clear hx); refine (I2.out _ (KX.out _ hb23).1 (KX.out _ hb23).2.1 (KX.out _ hb23).2.2).mono ?_; rintro _ w4 ⟨g2, rfl, ⟨x2, y2⟩, s2, l2, i2, n2, hb4⟩; have s1' := s1.below hb4; have hb24 := hb23.trans (hb4.mono hb23.size); have hb24a := hb24.alloc hb24.size (.cells #[.slice (some ⟨g1, 0, none⟩) 4 4, .slice (some ⟨g2, 0, none⟩) 4 4] 22); clear y2 hb4 s1)
          | (go_at_call 37; refine (I1.out _ (KX.out _ hb22).1 (KX.out _ hb22).2.1 (KX.out _ hb22).2.2).mono ?_; rintro _ w3 ⟨g1, rfl, ⟨x1, y1⟩, s1, l1, i1, n1, hb3⟩; have hb23 : Below W2.heap.size W2 w3 := hb22.trans (hb3.mono hb22.size); clear y1 hb3)
          | (go_at_call 103; refine (HJ.out w4 g1 g2 l1 l2 i1 i2 s1' s2).mono ?_; rintro _ w5 ⟨v5, rfl, ho5, hb5⟩; obtain ⟨A5, n5, c5, rfl, hl5, _, _, hs5⟩ := ho5.shapeN; have HL5 := Lib.hid hl5; have hb25 := hb24a.trans (hb5.mono hb24a.size); clear hl5 ho5 hb5)
          | (go_at_call 102; refine ((HHs.out w5 A5 n5 c5 l1 l2 i1 i2 HL5.out (KX.out _ hb25).1 (KX.out _ hb25).2.1 hs5)).mono ?_; rintro _ w6 ⟨g6, rfl, ⟨x6, y6⟩, s6, l6, i6, n6, hb6⟩; have hb26 := hb25.trans (hb6.mono hb25.size); clear hb6)))
      have HFIN : Hid (RootIs (digL p k (1 :: (d1 ++ d2))) w (.returned (.slice (some ⟨g6, 0, none⟩) 4 4)) w6) := Lib.hid ⟨g6, rfl, ⟨_, y6⟩, s6, l6, i6, by have := HB2.out.size; have := hb25.size; omega, HB2.out.trans (hb26.mono HB2.out.size)⟩
      clear y6 s6 l6 i6 n6 hb26 hb25 hb24a hb24 hb23 hb22 l1 l2 i1 i2 s1' s2 n1 n2 hs5 HL5 KS KX HHs HJ I1 I2
      go_wp2
      go_ret
      have hfin := HFIN.out
      rw [HD1.out, HD2.out] at hfin
      exact hfin
    · have e : m = 1 := by omega
      subst e
      exact troot_one p S b s k z oo A N c rs hN hN2 hR a ha w F G hT
end Go.Proofs.YtijhajkakmohnaaGreatDoor

/- Walks: same.Copied, Rows, Opened, Openings. -/
set_option linter.unusedVariables false
namespace Go.Proofs.YtijhajkakmohnaaGreatDoor
open Go.RowKit Zp
def CopRel (ts : List (List Int)) (w : World) (v i : Value) (wr : World) : Prop :=
  ∃ (k : Nat) (us : List Value), k ≤ ts.length ∧ i = vi k ∧ OwnR wr w.heap.size v us ∧ RowsOwn wr w.heap.size us (ts.take k) ∧ Below w.heap.size w wr
set_option maxRecDepth 100000 in
set_option maxHeartbeats 2000000 in
theorem copied_any (A : Option Addr) (N c : Nat) (ts : List (List Int)) (hN : ts.length = N) (hN2 : N ≤ 5864062014805) (hR : ∀ t ∈ ts, t.length ≤ 17592186044416) (w : World) (hT : TB w A ts) :
    Calls Tryz.prog 12 #[.slice A N c] w (MadeRows ts w) := by
  have HN := Lib.hid hN
  have HT := Lib.hid hT
  have HR := Lib.hid hR
  have HN2 := Lib.hid hN2
  clear hN hT hR hN2
  go_enter Tryz.func12, Tryz.ntmps12
  go_wp2
  go_loopw [3, 4, 5] (fun v i _ wr => CopRel ts w v i wr) (fun _ i _ _ => N - (intOf i).toNat)
  case atStart => exact ⟨0, [], Nat.zero_le _, rfl, World.ownsRow_nil _ _ _ _, RowsOwn.nil _ _, Below.refl _ _⟩
  case round =>
    obtain ⟨k, us, hk, rfl, hown, hrows, hb⟩ := hrel
    rw [HN.out] at hk
    by_cases hlt : k < N
    · have hkt : k < ts.length := by rw [HN.out]; exact hlt
      obtain ⟨ad, A1, n1, c1, rfl, hb1, hc1, hl1, hn1, hs1, hi1⟩ := (HT.out.below hb) k hkt
      have i1 : (0 : Int) ≤ (k : Int) := by omega
      have i2 : (k : Int) < (N : Int) := by omega
      have hwr : IntKind.i64.wrap ((k : Int) + 1) = (k : Int) + 1 := IntWalk.i64_in _ (by have := HN2.out; omega)
      have hrl := HR.out _ (List.getElem_mem hkt)
      have htk : ts.take (k + 1) = ts.take k ++ [ts[k]] := List.take_succ_eq_append_getElem hkt
      have hs1' : SL wr A1 ts[k] := hs1
      obtain ⟨x, hx⟩ : ∃ x, x = ts[k] := ⟨_, rfl⟩
      rw [← hx] at hl1 hs1' hrl htk
      have hba : Below wr.heap.size wr (wr.alloc (.cells #[] 3)) := (Below.refl _ _).alloc (Nat.le_refl _) _
      have hc1' := (hba.cell (p := ad.add k) hb1).trans hc1
      have ho0 := own_empty wr wr.heap.size (Nat.le_refl _)
      have hus : us.length = k := by rw [hrows.1, List.length_take]; omega
      have HX := Lib.hid htk
      have HL1 := Lib.hid hl1
      have HRL := Lib.hid (show ([] : List Int).length + n1 ≤ 17592186044416 by simp; omega)
      have HS1 := Lib.hid (hs1'.below hba)
      have HO0 := Lib.hid ho0
      have HBA := Lib.hid hba
      have HOW := Lib.hid hown
      have HRW := Lib.hid hrows
      have HB := Lib.hid hb
      have HUS := Lib.hid (show us.length < 5864062014805 by have := HN2.out; omega)
      clear hl1 hn1 hs1 hi1 hrl htk hs1' hx hba ho0 hown hrows hb hus hb1 hkt
      go_wp2_with (first
        | (at_builtin; refine wpList_appA _ rfl _ _ rfl wr.heap.size _ [] A1 n1 c1 x rfl rfl HL1.out HO0.out HS1.out HRL.out (by simp) ?_; intro v2 w2 hg2; have ho2 := hg2.own; have hb2 : Below wr.heap.size wr w2 := hg2.below HBA.out HO0.out (Nat.le_refl _) HBA.out.size; clear hg2; obtain ⟨A2, n2, c2, rfl, hl2, hc2, hm2, hs2⟩ := ho2.shapeN; have hB2 := HB.out.trans (hb2.mono HB.out.size); have hR2 := HRW.out.below hb2; have hW2 := OwnR.below HOW.out hb2; have HL2 := Lib.hid hl2; have ho2' := ho2.more (base' := w.heap.size) HB.out.size; clear hl2 hs2)
        | (at_builtin; refine wpList_appR w2 A2 n2 c2 rfl _ _ rfl w.heap.size _ us rfl rfl hW2 HUS.out hB2.size ?_; intro v3 w3 hg3))
      have hr3 := (hg3.rows hW2 hR2).snoc (ho2'.grown hg3.grown (own_ne ho2' hW2))
      have hown3 := hg3.own
      have hb3 := hg3.below hB2 hW2 (Nat.le_refl _) hB2.size
      rw [show ([] : List Int) ++ x = x from rfl, ← HX.out] at hr3
      exact ⟨⟨k + 1, _, by rw [HN.out]; omega, by go_num, hown3, hr3, hb3⟩, by simp [intOf]; omega⟩
    · have ek : k = N := by omega
      rw [ek, ← HN.out, List.take_length] at hrows
      go_wp2
      go_ret
      exact ⟨_, us, rfl, hown, hrows, hb⟩
end Go.Proofs.YtijhajkakmohnaaGreatDoor

/- Maps whose keys are structs or the like, told by what each key holds: look-up, update, an entry that is laid and then stored into. Of no program. -/
set_option linter.unusedVariables false
namespace Go.Proofs.YtijhajkakmohnaaGreatDoor
open Go.MapKept Go.ChangeMaps

section
variable {P : Program} {k : TypeId}
/-- the entries tell f -/
def Tells (es : Array MapEntry) (f : Value → Option Value) : Prop := ∀ x v, f x = some v ↔ ∃ e ∈ es.toList, e.key = x ∧ e.val = v
/-- block b is a map that holds f -/
def MapIs (P : Program) (k : TypeId) (w : World) (b : Nat) (f : Value → Option Value) : Prop :=
  ∃ (es : Array MapEntry) (clock : Nat), w.heap[b]? = some (.map es clock) ∧ Stamped es clock ∧ (∀ x ∈ es.toList, ∃ l, keyOf P k x.key = some l) ∧ Tells es f
/-- .. but for one key, whose entry bears a stamp -/
def EntIs (P : Program) (k : TypeId) (w : World) (b : Nat) (key : Value) (st : Nat) (f : Value → Option Value) : Prop :=
  ∃ (es : Array MapEntry) (clock : Nat), w.heap[b]? = some (.map es clock) ∧ Stamped es clock ∧ (∀ x ∈ es.toList, ∃ l, keyOf P k x.key = some l) ∧ (∃ e ∈ es.toList, e.born = st ∧ e.key = key) ∧
    ∀ x, x ≠ key → ∀ v, f x = some v ↔ ∃ e ∈ es.toList, e.key = x ∧ e.val = v
theorem MapIs.made (P : Program) (k : TypeId) (w : World) : MapIs P k (w.alloc (.map #[] 0)) w.heap.size (fun _ => none) :=
  ⟨#[], 0, (MapKept.heap_alloc w _).1, stamped_empty 0, by simp, fun x v => by simp⟩
theorem MapIs.lt {w : World} {b : Nat} {f : Value → Option Value} (h : MapIs P k w b f) : b < w.heap.size := by
  obtain ⟨es, clock, hb, _⟩ := h
  exact (Array.getElem?_eq_some_iff.1 hb).1
theorem MapIs.kept {w w' : World} {b : Nat} {f : Value → Option Value} {row : Option Nat} (h : MapIs P k w b f) (hg : w.grownBy w' row) (hne : some b ≠ row) : MapIs P k w' b f := by
  have hlt := h.lt
  obtain ⟨es, clock, hb, r⟩ := h
  exact ⟨es, clock, (hg.block b hlt hne).trans hb, r⟩
theorem MapIs.same {w w' : World} {b : Nat} {f : Value → Option Value} (h : MapIs P k w b f) (hg : w'.heap[b]? = w.heap[b]?) : MapIs P k w' b f := by
  obtain ⟨es, clock, hb, r⟩ := h
  exact ⟨es, clock, hg.trans hb, r⟩
theorem key_unique {es : Array MapEntry} {clock : Nat} (h : Stamped es clock) {x y : MapEntry} (hx : x ∈ es.toList) (hy : y ∈ es.toList) (e : x.key = y.key) : x = y := by
  have hp := ((stamped_iff es clock).1 h).2.2
  obtain ⟨i, hi, rfl⟩ := List.mem_iff_getElem.1 hx
  obtain ⟨j, hj, rfl⟩ := List.mem_iff_getElem.1 hy
  rcases Nat.lt_trichotomy i j with h1 | h1 | h1
  · exact absurd e (List.pairwise_iff_getElem.1 hp i j hi hj h1)
  · subst h1; rfl
  · exact absurd e.symm (List.pairwise_iff_getElem.1 hp j i hj hi h1)
theorem tells_some {es : Array MapEntry} {clock : Nat} (h : Stamped es clock) : ∃ f, Tells es f := by
  refine ⟨fun x => open Classical in if hx : ∃ e ∈ es.toList, e.key = x then some (Classical.choose hx).val else none, fun x v => ?_⟩
  by_cases hx : ∃ e ∈ es.toList, e.key = x
  · simp only [dif_pos hx, Option.some.injEq]
    obtain ⟨h1, h2⟩ := Classical.choose_spec hx
    constructor
    · intro hv; exact ⟨_, h1, h2, hv⟩
    · rintro ⟨e, he, h3, h4⟩
      have := key_unique h h1 he (h2.trans h3.symm)
      rw [this]; exact h4
  · simp only [dif_neg hx, reduceCtorEq, false_iff]
    rintro ⟨e, he, h3, _⟩
    exact hx ⟨e, he, h3⟩
variable (K : Maps.Keyed P k)
include K
/-- m[key] -/
theorem MapIs.look {w : World} {b : Nat} {f : Value → Option Value} (h : MapIs P k w b f) {t e : TypeId} (ht : P.underlying t = some (.map k e)) {z : Value} (hz : (zeroValue e).run P w = .ok z w) {key : Value} {kl : Lit} (hkey : keyOf P k key = some kl) :
    (Instr.lookup t (.map (some b)) key false).run P w = .ok ((f key).getD z) w := by
  obtain ⟨es, clock, hb, hs, hk, hf⟩ := h
  rcases K.find w hkey es.toList hk with ⟨h1, h2⟩ | ⟨j, e0, h1, h2, h3⟩
  · have hn : f key = none := by
      cases hfk : f key with
      | none => rfl
      | some v =>
        obtain ⟨x, hx, h3, _⟩ := (hf key v).1 hfk
        exact absurd h3 (h2 x hx)
    simp [Instr.lookup, run_underlying ht, MapKept.run_getObj_map hb, K.check w _ hkey, h1, hz, hn, Result.andThen]
  · have hn : f key = some e0.val := (hf key _).2 ⟨e0, List.mem_of_getElem? h2, h3, rfl⟩
    simp [Instr.lookup, run_underlying ht, MapKept.run_getObj_map hb, K.check w _ hkey, h1, hn, Result.andThen]
omit K in
theorem block_grown (w : World) (b : Nat) (o : Obj) : w.grownBy (setBlock w b o) (some b) := ⟨rfl, rfl, rfl, by simp [setBlock], fun i _ hi => by
  have hne : b ≠ i := fun e => hi (by rw [e])
  simp [setBlock, hne]⟩
omit K in
theorem mem_push {es : Array MapEntry} {e x : MapEntry} : x ∈ (es.push e).toList ↔ x ∈ es.toList ∨ x = e := by simp
omit K in
theorem mem_mod {es : Array MapEntry} {clock j : Nat} (hs : Stamped es clock) {e0 : MapEntry} (hj : es.toList[j]? = some e0) (v : Value) (x : MapEntry) :
    x ∈ (es.modify j fun e => { e with val := v }).toList ↔ (x ∈ es.toList ∧ x.key ≠ e0.key) ∨ x = { e0 with val := v } := by
  have hjl : j < es.toList.length := (List.getElem?_eq_some_iff.1 hj).1
  have hje : es.toList[j] = e0 := (List.getElem?_eq_some_iff.1 hj).2
  have hp := ((stamped_iff es clock).1 hs).2.2
  rw [Array.toList_modify, List.mem_iff_getElem?]
  constructor
  · rintro ⟨i, hi⟩
    rw [List.getElem?_modify] at hi
    by_cases e : j = i
    · subst e
      rw [hj] at hi
      simp at hi
      exact .inr hi.symm
    · simp only [if_neg e] at hi
      have hi' : es.toList[i]? = some x := by simpa using hi
      refine .inl ⟨List.mem_of_getElem? hi', fun hk => ?_⟩
      have hil : i < es.toList.length := (List.getElem?_eq_some_iff.1 hi').1
      have hie : es.toList[i] = x := (List.getElem?_eq_some_iff.1 hi').2
      rcases Nat.lt_or_ge i j with h1 | h1
      · exact List.pairwise_iff_getElem.1 hp i j hil hjl h1 (by rw [hie, hje]; exact hk)
      · exact List.pairwise_iff_getElem.1 hp j i hjl hil (by omega) (by rw [hie, hje]; exact hk.symm)
  · rintro (⟨hx, hk⟩ | rfl)
    · obtain ⟨i, hi⟩ := List.mem_iff_getElem?.1 hx
      refine ⟨i, ?_⟩
      have hne : j ≠ i := fun e => by subst e; rw [hj] at hi; injection hi with hi; exact hk (by rw [hi])
      simp [hne, hi]
    · exact ⟨j, by simp [hj]⟩
omit K in
theorem stamped_val {es : Array MapEntry} {clock : Nat} (hs : Stamped es clock) (j : Nat) (v : Value) : Stamped (es.modify j fun e => { e with val := v }) clock :=
  stamped_modify hs j _ (fun _ _ => rfl) (fun _ _ _ => rfl)
/-- what a map holds when one key was stored into -/
def Put (f f' : Value → Option Value) (key val : Value) : Prop := f' key = some val ∧ ∀ x, x ≠ key → f' x = f x
omit K in
theorem tells_put {es : Array MapEntry} {clock : Nat} (hs : Stamped es clock) {f : Value → Option Value} {key val : Value} (h1 : ∃ e ∈ es.toList, e.key = key ∧ e.val = val)
    (h2 : ∀ x, x ≠ key → ∀ v, f x = some v ↔ ∃ e ∈ es.toList, e.key = x ∧ e.val = v) : ∃ f', Tells es f' ∧ Put f f' key val := by
  obtain ⟨f', hf⟩ := tells_some hs
  refine ⟨f', hf, (hf key val).2 h1, fun x hx => ?_⟩
  apply Option.ext
  intro v
  rw [hf x v, h2 x hx v]
/-- m[key]'s entry is laid -/
theorem MapIs.entry {w : World} {b : Nat} {f : Value → Option Value} (h : MapIs P k w b f) {t e : TypeId} (ht : P.underlying t = some (.map k e)) {z : Value} (hz : (zeroValue e).run P w = .ok z w) {key : Value} {kl : Lit} (hkey : keyOf P k key = some kl) :
    ∃ v0 st w', (Instr.mapEntry t (.map (some b)) key).run P w = .ok (.tuple #[v0, goInt (st : Nat)]) w' ∧ EntIs P k w' b key st f ∧ w.grownBy w' (some b) := by
  obtain ⟨es, clock, hb, hs, hk, hf⟩ := h
  rcases K.find w hkey es.toList hk with ⟨h1, h2⟩ | ⟨j, e0, h1, h2, h3⟩
  · refine ⟨z, clock, setBlock w b (.map (es.push ⟨key, z, clock⟩) (clock + 1)), ?_, ⟨_, _, heap_setBlock_same hb _, stamped_push hs h2, ?_, ⟨⟨key, z, clock⟩, by simp, rfl, rfl⟩, ?_⟩, block_grown _ _ _⟩
    · simp [Instr.mapEntry, run_underlying ht, MapKept.run_getObj_map hb, K.check w false hkey, h1, hz, MapKept.run_setObj_map _ hb, Result.andThen, setBlock]
    · intro x hx
      rcases mem_push.1 hx with hx | rfl
      · exact hk x hx
      · exact ⟨kl, hkey⟩
    · intro x hx v
      rw [hf x v]
      constructor
      · rintro ⟨e, he, h3⟩; exact ⟨e, mem_push.2 (.inl he), h3⟩
      · rintro ⟨e, he, h3, h4⟩
        rcases mem_push.1 he with he | rfl
        · exact ⟨e, he, h3, h4⟩
        · exact absurd h3.symm hx
  · have hj : es[j]? = some e0 := by simpa using h2
    have hsame : es.modify j (fun e => { e with key := key }) = es := by
      apply Array.ext'
      rw [Array.toList_modify, modify_eq_set _ _ _ _ h2]
      have : ({ e0 with key := key } : MapEntry) = e0 := by rw [← h3]
      rw [this]
      exact Go.WideElems.set_self _ _ _ h2
    refine ⟨e0.val, e0.born, setBlock w b (.map es clock), ?_, ⟨es, clock, heap_setBlock_same hb _, hs, hk, ⟨e0, List.mem_of_getElem? h2, rfl, h3⟩, fun x _ v => hf x v⟩, block_grown _ _ _⟩
    simp [Instr.mapEntry, run_underlying ht, MapKept.run_getObj_map hb, K.check w false hkey, h1, hj, h3, K.stays w hkey, hsame, MapKept.run_setObj_map _ hb, Result.andThen, setBlock]
omit K in
/-- .. and stored into -/
theorem EntIs.store {w : World} {b st : Nat} {key : Value} {f : Value → Option Value} (h : EntIs P k w b key st f) (t : TypeId) (val : Value) :
    ∃ w' f', (Instr.entryStore t (.map (some b)) (goInt (st : Nat)) val).run P w = .ok () w' ∧ MapIs P k w' b f' ∧ Put f f' key val ∧ w.grownBy w' (some b) := by
  obtain ⟨es, clock, hb, hs, hk, ⟨e0, he0, rfl, rfl⟩, hf⟩ := h
  obtain ⟨j, hj⟩ := List.mem_iff_getElem?.1 he0
  have hs' := stamped_val hs j val
  have hmm := mem_mod hs hj val
  obtain ⟨f', hf', hp⟩ := tells_put (f := f) hs' (key := e0.key) (val := val) ⟨{ e0 with val := val }, (hmm _).2 (.inr rfl), rfl, rfl⟩ (fun x hx v => by
    rw [hf x hx v]
    constructor
    · rintro ⟨e, he, h3, h4⟩; exact ⟨e, (hmm e).2 (.inl ⟨he, by rw [h3]; exact hx⟩), h3, h4⟩
    · rintro ⟨e, he, h3, h4⟩
      rcases (hmm e).1 he with ⟨he, _⟩ | rfl
      · exact ⟨e, he, h3, h4⟩
      · exact absurd h3.symm hx)
  refine ⟨setBlock w b (.map (es.modify j fun e => { e with val := val }) clock), f', ?_, ⟨_, _, heap_setBlock_same hb _, hs', ?_, hf'⟩, hp, block_grown _ _ _⟩
  · have hidx : es.findIdx? (fun e => ((e.born : Nat) : Int) == ((e0.born : Nat) : Int)) = some j := by
      rw [Go.WideElems.findIdx_arr]
      exact Go.WideElems.findIdx_born hs.2.1 hj
    simp [Instr.entryStore, MapKept.run_getObj_map hb, asInt, asIntOf, goInt, hidx, MapKept.run_setObj_map _ hb, Result.andThen, setBlock]
  · intro x hx
    rcases (hmm x).1 hx with ⟨hx, _⟩ | rfl
    · exact hk x hx
    · exact hk e0 he0
/-- m[key] = val -/
theorem MapIs.update {w : World} {b : Nat} {f : Value → Option Value} (h : MapIs P k w b f) {t e : TypeId} (ht : P.underlying t = some (.map k e)) {key val : Value} {kl : Lit} (hkey : keyOf P k key = some kl) :
    ∃ w' f', (Instr.mapUpdate t (.map (some b)) key val).run P w = .ok () w' ∧ MapIs P k w' b f' ∧ Put f f' key val ∧ w.grownBy w' (some b) := by
  obtain ⟨es, clock, hb, hs, hk, hf⟩ := h
  rcases K.find w hkey es.toList hk with ⟨h1, h2⟩ | ⟨j, e0, h1, h2, h3⟩
  · have hs' := stamped_push hs (val := val) h2
    obtain ⟨f', hf', hp⟩ := tells_put (f := f) hs' (key := key) (val := val) ⟨⟨key, val, clock⟩, by simp, rfl, rfl⟩ (fun x hx v => by
      rw [hf x v]
      constructor
      · rintro ⟨e, he, h3⟩; exact ⟨e, mem_push.2 (.inl he), h3⟩
      · rintro ⟨e, he, h3, h4⟩
        rcases mem_push.1 he with he | rfl
        · exact ⟨e, he, h3, h4⟩
        · exact absurd h3.symm hx)
    refine ⟨setBlock w b (.map (es.push ⟨key, val, clock⟩) (clock + 1)), f', ?_, ⟨_, _, heap_setBlock_same hb _, hs', ?_, hf'⟩, hp, block_grown _ _ _⟩
    · simp [Instr.mapUpdate, run_underlying ht, MapKept.run_getObj_map hb, K.check w false hkey, h1, MapKept.run_setObj_map _ hb, Result.andThen, setBlock]
    · intro x hx
      rcases mem_push.1 hx with hx | rfl
      · exact hk x hx
      · exact ⟨kl, hkey⟩
  · subst h3
    have hj : es[j]? = some e0 := by simpa using h2
    have hsame : es.modify j (fun e => { e with key := e0.key, val := val }) = es.modify j (fun e => { e with val := val }) := by
      apply Array.ext'
      rw [Array.toList_modify, Array.toList_modify, modify_eq_set _ _ _ _ h2, modify_eq_set _ _ _ _ h2]
    have hs' := stamped_val hs j val
    have hmm := mem_mod hs h2 val
    obtain ⟨f', hf', hp⟩ := tells_put (f := f) hs' (key := e0.key) (val := val) ⟨{ e0 with val := val }, (hmm _).2 (.inr rfl), rfl, rfl⟩ (fun x hx v => by
      rw [hf x v]
      constructor
      · rintro ⟨e, he, h3, h4⟩; exact ⟨e, (hmm e).2 (.inl ⟨he, by rw [h3]; exact hx⟩), h3, h4⟩
      · rintro ⟨e, he, h3, h4⟩
        rcases (hmm e).1 he with ⟨he, _⟩ | rfl
        · exact ⟨e, he, h3, h4⟩
        · exact absurd h3.symm hx)
    refine ⟨setBlock w b (.map (es.modify j fun e => { e with val := val }) clock), f', ?_, ⟨_, _, heap_setBlock_same hb _, hs', ?_, hf'⟩, hp, block_grown _ _ _⟩
    · simp [Instr.mapUpdate, run_underlying ht, MapKept.run_getObj_map hb, K.check w false hkey, h1, hj, K.stays w hkey, hsame, MapKept.run_setObj_map _ hb, Result.andThen, setBlock]
    · intro x hx
      rcases (hmm x).1 hx with ⟨hx, _⟩ | rfl
      · exact hk x hx
      · exact hk e0 (List.mem_of_getElem? h2)
end
end Go.Proofs.YtijhajkakmohnaaGreatDoor

/- Groups of rows as keys of maps. -/
set_option linter.unusedVariables false
namespace Go.Proofs.YtijhajkakmohnaaGreatDoor
open Go.RowKit Zp
theorem gk_at : Tryz.prog.keyTypeAt 3 92 = true := by kernel_rfl
theorem gk_row : 92 < Tryz.prog.types.size := of_decide_eq_true (by kernel_rfl)
theorem gk_laid : laidOutB Tryz.prog = true := by kernel_rfl
theorem keyed_group : Maps.Keyed Tryz.prog 92 :=
  Maps.Keyed.of_law (deep_law_laid (P := Tryz.prog) gk_laid (m := 3) (by omega) gk_row gk_at (by rw [Tryz.underlying92]))
theorem gk_type : Tryz.prog.keyType 92 = true := by kernel_rfl
theorem gk_cells : Tryz.prog.cellsOf 92 = 2 := by kernel_rfl
theorem gk_int : Tryz.prog.cellsOf 3 = 1 := by kernel_rfl
theorem gk_size : ∃ m, Tryz.prog.types.size = m + 1 := ⟨Tryz.prog.types.size - 1, by have := gk_row; omega⟩
theorem key_group {x y : Int} (hx : I64 x) (hy : I64 y) : ∃ l, keyOf Tryz.prog 92 (.agg #[vi x, vi y]) = some l := by
  have wx : (Lit.int .i64 x).wf = true := by simp [Lit.wf, IntKind.min, IntKind.max, IntKind.signed, IntKind.bits]; omega
  have wy : (Lit.int .i64 y).wf = true := by simp [Lit.wf, IntKind.min, IntKind.max, IntKind.signed, IntKind.bits]; omega
  have h0 := gk_type
  have h1 := gk_cells
  have h2 := gk_int
  obtain ⟨m, hm⟩ := gk_size
  refine ⟨.string (keyBytes [.int .i64 x, .int .i64 y]), ?_⟩
  unfold keyOf
  simp only [Tryz.underlying92]
  rw [if_pos (by simp [h0, Value.formed, Tryz.underlying92, h1]), hm]
  unfold Program.keyLits
  simp only [Tryz.underlying92, Value.cells]
  rw [if_pos (by refine ⟨by rw [h1]; rfl, by kernel_rfl⟩)]
  simp [h2, Program.keyLits, Tryz.underlying3, wx, wy, List.mapM_cons, List.mapM_nil]
theorem key_gp {a c : Nat} (hc : a ≤ 65536 ∧ c ≤ 65536) : ∃ l, keyOf Tryz.prog 92 (Gp a c) = some l := key_group ⟨by omega, by omega⟩ ⟨by omega, by omega⟩
theorem gp_inj {a c a' c' : Nat} (h : Gp a c = Gp a' c') : a = a' ∧ c = c' := by
  simp [Gp] at h
  omega
end Go.Proofs.YtijhajkakmohnaaGreatDoor

/- Walks: tree.Root; tree.hidden, with whatever function it is handed. -/
set_option linter.unusedVariables false
namespace Go.Proofs.YtijhajkakmohnaaGreatDoor
open Go.RowKit Zp
set_option maxRecDepth 100000 in
set_option maxHeartbeats 2000000 in
theorem tRoot_no (s A : Option Addr) (N c : Nat) (hN : rightB N = false) (hmx : N ≤ 9223372036854775807) (w : World) :
    Calls Tryz.prog 13 #[.pointer s, .slice A N c] w fun e w' => e = .returned (.tuple #[.slice none 0 0, .iface 89 (vi 2)]) ∧ w = w' := by
  have HR := Lib.hid (fun w => right_any (N : Int) w)
  go_enter Tryz.func13, Tryz.ntmps13
  go_wp2_with fail
  refine (HR.out _).mono ?_
  rintro e w' ⟨rfl, rfl⟩
  rw [hN]
  clear hN
  go_wp2
  go_ret2
  exact ⟨rfl, rfl⟩
/-- the root of rows, and no error -/
def TRootIs (l : List Int) (w : World) (e : Ending) (w' : World) : Prop :=
  ∃ g : Nat, e = .returned (.tuple #[.slice (some ⟨g, 0, none⟩) 4 4, .nilIface]) ∧ (∃ cs, Blk w' g 142 cs) ∧ SL w' (some ⟨g, 0, none⟩) l ∧ l.length = 4 ∧ (∀ x ∈ l, I64 x) ∧ w.heap.size ≤ g ∧ Below w.heap.size w w'
set_option maxRecDepth 100000 in
set_option maxHeartbeats 2000000 in
theorem tRoot_yes (p S b s k z : Nat) [NeZero p] (oo : Nat → Nat → Fin p) (A : Option Addr) (N c : Nat) (rs : List (List Int)) (hN : rs.length = N) (h1 : 1 ≤ N) (hN2 : N ≤ 65536) (hR : ∀ l ∈ rs, l.length * 8 + 80 ≤ 140737488355328)
    (w : World) (F : Fld w S b p) (G : Spg w s b k z oo) (hT : TB w A rs) :
    Calls Tryz.prog 13 #[.pointer (some ⟨s, 0, none⟩), .slice A N c] w (TRootIs (rootD (digL p k) (rowF rs) 0 N) w) := by
  have HR := Lib.hid (fun w => right_any (N : Int) w)
  have HB := Lib.hid (show rightB (N : Int) = true from decide_eq_true (by constructor <;> omega))
  have h := troot_any p S b s k z oo A N c rs hN hN2 hR N 0 h1 (by omega) w F G hT
  rw [show (0 + N) = N by omega] at h
  have HT := Lib.hid h
  clear h hT F G hR hN
  go_enter Tryz.func13, Tryz.ntmps13
  go_wp2_with fail
  refine (HR.out _).mono ?_
  rintro e w' ⟨rfl, rfl⟩
  rw [HB.out]
  go_wp2_with fail
  refine (HT.out).mono ?_
  rintro _ w1 ⟨g, rfl, h1, h2, h3, h4, h5, h6⟩
  have HFIN : Hid (TRootIs (rootD (digL p k) (rowF rs) 0 N) w (.returned (.tuple #[.slice (some ⟨g, 0, none⟩) 4 4, .nilIface])) w1) := Lib.hid ⟨g, rfl, h1, h2, h3, h4, h5, h6⟩
  clear h1 h2 h3 h4 h5 h6 HT HR HB
  go_wp2
  go_ret2
  exact HFIN.out
theorem SL.farO {w w' : World} {A : Option Addr} {xs : List Int} {g : Nat} (h : SL w A xs) (hg : w.grownBy w' (some g)) (hne : ∀ ad, A = some ad → xs ≠ [] → ad.block ≠ g) : SL w' A xs := by
  by_cases hx : xs = []
  · subst hx
    exact SL.nil
  · cases A with
    | none =>
      rcases Nat.eq_zero_or_pos xs.length with h0 | h0
      · exact absurd (List.length_eq_zero_iff.1 h0) hx
      · obtain ⟨ad, h1, _⟩ := h.at_ h0
        cases h1
    | some ad => exact h.far hg (hne ad rfl hx)
theorem grownBy_below {w w' : World} {row : Option Nat} (h : Below w.heap.size w w') : w.grownBy w' row := grown_of_below h row
set_option maxRecDepth 100000 in
set_option maxHeartbeats 1000000 in
theorem hidden_any (K : Nat) (hK : ∀ (args : Array Value) (w : World), (callFunc K args).run Tryz.prog w = .ok (.enter K args) w) (caps : Array Value) (g0 : Nat) (A0 : Option Addr) (n c : Nat) (l : List Int) (hadg : ∀ ad, A0 = some ad → l ≠ [] → ad.block ≠ g0) (hml : l.length = n) (hn : n ≤ 65536) (hup : Asc l)
    (J : List (Nat × Nat) → World → Prop) (hJ : ∀ pre W W', J pre W → Below W.heap.size W W' → J pre W')
    (hY : ∀ (pre : List (Nat × Nat)) (a m : Nat) (W : World), J pre W → 1 ≤ m → a + m ≤ 65536 → Calls Tryz.prog K (#[.agg #[vi (a : Int), vi ((a : Int) + (m : Int))]] ++ caps) W fun e W' => (∃ r, e = .returned r) ∧ J (pre ++ [(a, m)]) W' ∧ W.grownBy W' (some g0)) :
    ∀ (m a : Nat), 1 ≤ m → a + m ≤ 65536 → ∀ (pre : List (Nat × Nat)) (w : World), J pre w → SL w A0 l → g0 < w.heap.size →
    Calls Tryz.prog 46 #[Gp a (a + m), .slice A0 n c, .func (.func K) #[] caps] w fun e w' => (∃ r, e = .returned r) ∧ J (pre ++ hidL l a m) w' ∧ w.grownBy w' (some g0) := by
  intro m
  induction m using Nat.strongRecOn with
  | ind m ih =>
    intro a h1 ha pre w hj hs hg0
    have hb1 : Below w.heap.size w (w.alloc (.cells #[vi a, vi ((a : Int) + m)] 92)) := (Below.refl _ _).alloc (Nat.le_refl _) _
    have hB := Blk.new w 92 #[vi a, vi ((a : Int) + m)]
    have HSH := Lib.hid (shows_any A0 n c l hml hn hup a m ha _ (hs.below hb1))
    have HB1 := Lib.hid hb1
    by_cases hsh : shownB l a m = true
    · have HS0 := Lib.hid hsh
      by_cases h2 : 2 ≤ m
      · have hlf := leftN_lt h2
        have HHL := Lib.hid (show hidL l a m = hidL l a (leftN m) ++ hidL l (a + leftN m) (m - leftN m) by rw [hidL, if_pos hsh, dif_pos h2])
        have HH := Lib.hid (fun w => halves_any a m h2 (by omega) w)
        obtain ⟨j, hj'⟩ : ∃ j, j = leftN m := ⟨_, rfl⟩
        rw [← hj'] at hlf HH HHL
        obtain ⟨hj1, hj2, hj3⟩ := hlf
        have I1 := Lib.hid (fun W (x : J pre W) y z => ih j hj1 a hj3 (by omega) pre W x y z)
        have I2 : Hid (∀ W, J (pre ++ hidL l a j) W → SL W A0 l → g0 < W.heap.size → Calls Tryz.prog 46 #[.agg #[vi ((a : Int) + j), vi ((a : Int) + m)], .slice A0 n c, .func (.func K) #[] caps] W fun e w' => (∃ r, e = .returned r) ∧ J ((pre ++ hidL l a j) ++ hidL l (a + j) (m - j)) w' ∧ W.grownBy w' (some g0)) := Lib.hid (fun W x y z => by
          have h := ih (m - j) (by omega) (a + j) (by omega) (by omega) (pre ++ hidL l a j) W x y z
          rw [show a + j + (m - j) = a + m by omega] at h
          simpa [Gp] using h)
        have t1 : decide (1 < (m : Int)) = true := by simp; omega
        have t2 : decide ((1 : Int) < (a : Int) + (m : Int) - (a : Int)) = true := by simp; omega
        have HJ := Lib.hid hj
        have HJB := Lib.hid hJ
        have HBB := Lib.hid hB
        have HSS := Lib.hid hs
        clear hsh hB hb1 ih hJ hY hup hml hj hj' hs
        go_enter Tryz.func46, Tryz.ntmps46
        go_wp2_with fail
        refine HSH.out.mono ?_
        rintro e w2 ⟨rfl, hb2⟩
        rw [HS0.out]
        have hB2 := Blk.below HBB.out hb2 HBB.out.lt
        have e0 := (hB2.cell 0).trans (show _ = some (vi a) from rfl)
        have e1 := (hB2.cell 1).trans (show _ = some (vi ((a : Int) + m)) from rfl)
        have hb02 := HB1.out.trans (hb2.mono HB1.out.size)
        have HB02 := Lib.hid hb02
        clear hB2 hb2 hb02
        go_wp2_with fail
        refine (HH.out w2).mono ?_
        rintro _ w3 ⟨rfl, hb3⟩
        have hb03 := HB02.out.trans (hb3.mono HB02.out.size)
        have HB03 := Lib.hid hb03
        clear e0 e1 hb3 hb03
        go_wp2_with fail
        obtain ⟨q, hq⟩ : ∃ q, q = w3.heap.size := ⟨_, rfl⟩
        obtain ⟨W4, hW4⟩ : ∃ W4, W4 = (w3.alloc (.cells #[vi a, vi ((a : Int) + j)] 92)).alloc (.cells #[vi ((a : Int) + j), vi ((a : Int) + m)] 92) := ⟨_, rfl⟩
        rw [← hW4]
        have hB7 := (Blk.new w3 92 #[vi a, vi ((a : Int) + j)]).alloc (.cells #[vi ((a : Int) + j), vi ((a : Int) + m)] 92)
        have hB8 := Blk.new (w3.alloc (.cells #[vi a, vi ((a : Int) + j)] 92)) 92 #[vi ((a : Int) + j), vi ((a : Int) + m)]
        rw [← hW4, show (w3.alloc (.cells #[vi a, vi ((a : Int) + j)] 92)).heap.size = q + 1 by simp [hq]] at hB8
        rw [← hW4, ← hq] at hB7
        have hb4 : Below w.heap.size w W4 := by rw [hW4]; exact (HB03.out.alloc HB03.out.size _).alloc (by have := HB03.out.size; simp; omega) _
        have hqs := HB03.out.size
        rw [← hq] at hqs ⊢
        clear hW4 hq
        refine (I1.out W4 (HJB.out _ _ _ HJ.out hb4) (HSS.out.below hb4) (by have := hb4.size; omega)).mono ?_
        rintro _ w5 ⟨⟨r5, rfl⟩, hj5, hg5⟩
        have hB8' := Blk.grown hB8 hg5 (by intro e; injection e with e; omega)
        have e0 := (hB8'.cell 0).trans (show _ = some (vi ((a : Int) + j)) from rfl)
        have e1 := (hB8'.cell 1).trans (show _ = some (vi ((a : Int) + m)) from rfl)
        have hs5 : SL w5 A0 l := (HSS.out.below hb4).farO hg5 hadg
        have HJ5 := Lib.hid hj5
        have HG5 := Lib.hid (grownBy_trans (grown_of_below hb4 (some g0)) hg5)
        have HX := Lib.hid (I2.out w5 hj5 hs5 (by have := HG5.out.size; omega))
        clear hB7 hB8 hB8' hj5 hg5 hs5 hb4 I1 I2 HJ
        go_wp2_with fail
        refine HX.out.mono ?_
        rintro _ w6 ⟨⟨r6, rfl⟩, hj6, hg6⟩
        have HFIN : Hid (J (pre ++ hidL l a m) w6 ∧ w.grownBy w6 (some g0)) := Lib.hid ⟨by rw [HHL.out, ← List.append_assoc]; exact hj6, grownBy_trans HG5.out hg6⟩
        clear hj6 hg6 HX e0 e1
        go_wp2
        go_end0
        exact ⟨⟨_, rfl⟩, HFIN.out.1, HFIN.out.2⟩
      · have e : m = 1 := by omega
        subst e
        have HHL := Lib.hid (show hidL l a 1 = [] by rw [hidL, if_pos hsh, dif_neg h2])
        have HJ := Lib.hid hj
        have HJB := Lib.hid hJ
        have HBB := Lib.hid hB
        clear hsh hB hb1 ih hJ hY hup hml hj
        go_enter Tryz.func46, Tryz.ntmps46
        go_wp2_with fail
        refine HSH.out.mono ?_
        rintro e w2 ⟨rfl, hb2⟩
        rw [HS0.out]
        have hB2 := Blk.below HBB.out hb2 HBB.out.lt
        have e0 := (hB2.cell 0).trans (show _ = some (vi a) from rfl)
        have e1 := (hB2.cell 1).trans (show _ = some (vi ((a : Int) + 1)) from rfl)
        have hb02 := HB1.out.trans (hb2.mono HB1.out.size)
        have HFIN : Hid (J (pre ++ hidL l a 1) w2 ∧ w.grownBy w2 (some g0)) := Lib.hid ⟨by rw [HHL.out, List.append_nil]; exact HJB.out _ _ _ HJ.out hb02, grown_of_below hb02 _⟩
        clear hB2 hb2 hb02
        go_wp2
        go_end0
        exact ⟨⟨_, rfl⟩, HFIN.out.1, HFIN.out.2⟩
    · have HS0 := Lib.hid (show shownB l a m = false by simpa using hsh)
      have HHL := Lib.hid (show hidL l a m = [(a, m)] by rw [hidL, if_neg hsh])
      have HYY := Lib.hid (fun W h => hY pre a m W h h1 ha)
      have HJ := Lib.hid hj
      have HJB := Lib.hid hJ
      have HBB := Lib.hid hB
      clear hsh hB hb1 ih hJ hY hup hml hj
      go_enter Tryz.func46, Tryz.ntmps46
      go_wp2_with fail
      refine HSH.out.mono ?_
      rintro e w2 ⟨rfl, hb2⟩
      rw [HS0.out]
      have hB2 := Blk.below HBB.out hb2 HBB.out.lt
      have e0 := (hB2.cell 0).trans (show _ = some (vi a) from rfl)
      have e1 := (hB2.cell 1).trans (show _ = some (vi ((a : Int) + m)) from rfl)
      have hb02 := HB1.out.trans (hb2.mono HB1.out.size)
      have HB02 := Lib.hid hb02
      clear hB2 hb2 hb02
      go_wp2_with fail
      refine (HYY.out w2 (HJB.out _ _ _ HJ.out HB02.out)).mono ?_
      rintro _ w3 ⟨⟨r3, rfl⟩, hj3, hg3⟩
      have HFIN : Hid (J (pre ++ hidL l a m) w3 ∧ w.grownBy w3 (some g0)) := Lib.hid ⟨by rw [HHL.out]; exact hj3, grownBy_trans (grown_of_below HB02.out _) hg3⟩
      clear hj3 hg3 e0 e1
      go_wp2
      exact bodyPost_ret (results_none rfl _ _ _) rfl ⟨⟨_, rfl⟩, HFIN.out.1, HFIN.out.2⟩
end Go.Proofs.YtijhajkakmohnaaGreatDoor

/- What was worked out of an Opening, in memory: a struct of two maps keyed by groups. -/
set_option linter.unusedVariables false
namespace Go.Proofs.YtijhajkakmohnaaGreatDoor
open Go.RowKit Zp Go.MapKept Go.ChangeMaps
/-- nothing that was there is turned but two blocks -/
structure GrowM (w w' : World) (c m : Nat) : Prop where
  os : w'.os = w.os
  tape : w'.tape = w.tape
  output : w'.output = w.output
  size : w.heap.size ≤ w'.heap.size
  block : ∀ x, x < w.heap.size → x ≠ c → x ≠ m → w'.heap[x]? = w.heap[x]?
section
variable {a b d : World} {c m B : Nat}
theorem GrowM.refl (w : World) (c m : Nat) : GrowM w w c m := ⟨rfl, rfl, rfl, Nat.le_refl _, fun _ _ _ _ => rfl⟩
theorem GrowM.trans (h : GrowM a b c m) (g : GrowM b d c m) : GrowM a d c m :=
  ⟨g.os.trans h.os, g.tape.trans h.tape, g.output.trans h.output, Nat.le_trans h.size g.size, fun x h1 h2 h3 => (g.block x (Nat.lt_of_lt_of_le h1 h.size) h2 h3).trans (h.block x h1 h2 h3)⟩
theorem GrowM.one (h : a.grownBy b (some c)) : GrowM a b c m := ⟨h.os, h.tape, h.output, h.size, fun x h1 h2 _ => h.block x h1 (fun e => h2 (by injection e))⟩
theorem GrowM.two (h : a.grownBy b (some m)) : GrowM a b c m := ⟨h.os, h.tape, h.output, h.size, fun x h1 _ h3 => h.block x h1 (fun e => h3 (by injection e))⟩
theorem GrowM.of (h : Below a.heap.size a b) : GrowM a b c m := ⟨h.os, h.tape, h.output, h.size, fun x h1 _ _ => h.block x h1⟩
theorem GrowM.below (h : GrowM a b c m) (hB : B ≤ a.heap.size) (hc : B ≤ c) (hm : B ≤ m) : Below B a b := ⟨h.os, h.tape, h.output, h.size, fun x hx => h.block x (by omega) (by omega) (by omega)⟩
theorem GrowM.drewN (h : GrowM a b c m) (n : Nat) : GrowM a (b.drewN n) c m := ⟨h.os, h.tape, h.output, h.size, h.block⟩
end
/-- a block that is a map -/
def IsMap (w : World) (b : Nat) : Prop := ∃ es clock, w.heap[b]? = some (.map es clock)
theorem IsMap.lt {w : World} {b : Nat} (h : IsMap w b) : b < w.heap.size := by
  obtain ⟨es, clock, hb⟩ := h
  exact (Array.getElem?_eq_some_iff.1 hb).1
theorem IsMap.ne_blk {w : World} {b g : Nat} {t : TypeId} {cs : Array Value} (h : IsMap w b) (hg : Blk w g t cs) : g ≠ b := by
  rintro rfl
  obtain ⟨es, clock, hb⟩ := h
  unfold Blk at hg
  rw [hb] at hg
  injection hg with hg
  cases hg
theorem IsMap.ne_cell {w : World} {b : Nat} {p : Addr} {v : Value} (h : IsMap w b) (hg : w.cell? p = some v) : p.block ≠ b := by
  rintro rfl
  obtain ⟨es, clock, hb⟩ := h
  simp [World.cell?, hb] at hg
theorem MapIs.isMap {P : Program} {k : TypeId} {w : World} {b : Nat} {f : Value → Option Value} (h : MapIs P k w b f) : IsMap w b := by
  obtain ⟨es, clock, hb, _⟩ := h
  exact ⟨es, clock, hb⟩
theorem EntIs.isMap {P : Program} {k : TypeId} {w : World} {b st : Nat} {key : Value} {f : Value → Option Value} (h : EntIs P k w b key st f) : IsMap w b := by
  obtain ⟨es, clock, hb, _⟩ := h
  exact ⟨es, clock, hb⟩
theorem EntIs.kept {P : Program} {k : TypeId} {w w' : World} {b st : Nat} {key : Value} {f : Value → Option Value} {row : Option Nat} (h : EntIs P k w b key st f) (hg : w.grownBy w' row) (hne : some b ≠ row) : EntIs P k w' b key st f := by
  have hlt := h.isMap.lt
  obtain ⟨es, clock, hb, r⟩ := h
  exact ⟨es, clock, (hg.block b hlt hne).trans hb, r⟩
section
variable {w w' : World} {c m : Nat}
theorem GrowM.cell (h : GrowM w w' c m) (hc : IsMap w c) (hm : IsMap w m) {p : Addr} {v : Value} (hp : w.cell? p = some v) : w'.cell? p = some v := by
  rw [← hp]
  exact World.cell?_of_block (h.block p.block (block_lt_of_cell hp) (hc.ne_cell hp) (hm.ne_cell hp))
theorem GrowM.blk (h : GrowM w w' c m) (hc : IsMap w c) (hm : IsMap w m) {g : Nat} {t : TypeId} {cs : Array Value} (hg : Blk w g t cs) : Blk w' g t cs :=
  (h.block g hg.lt (hc.ne_blk hg) (hm.ne_blk hg)).trans hg
theorem SL.growM {A : Option Addr} {xs : List Int} (hs : SL w A xs) (h : GrowM w w' c m) (hc : IsMap w c) (hm : IsMap w m) : SL w' A xs := by
  refine ⟨hs.1, fun hn => ?_⟩
  obtain ⟨ad, e, hb, hcell⟩ := hs.2 hn
  exact ⟨ad, e, Nat.lt_of_lt_of_le hb h.size, fun j u hu => h.cell hc hm (hcell j u hu)⟩
theorem TB.growM {A : Option Addr} {ts : List (List Int)} (ht : TB w A ts) (h : GrowM w w' c m) (hc : IsMap w c) (hm : IsMap w m) : TB w' A ts := fun k hk => by
  obtain ⟨ad, A1, n1, c1, h1, h2, h3, h4, h5, h6, h7⟩ := ht k hk
  exact ⟨ad, A1, n1, c1, h1, Nat.lt_of_lt_of_le h2 h.size, h.cell hc hm h3, h4, h5, h6.growM h hc hm, h7⟩
theorem Spg.growM {p s b k z : Nat} [NeZero p] {oo : Nat → Nat → Fin p} (G : Spg w s b k z oo) (h : GrowM w w' c m) (hc : s < c) (hm : s < m) : Spg w' s b k z oo :=
  G.below (h.below (B := s + 1) (block_lt_of_cell G.c0) hc hm) (Nat.lt_succ_self _)
theorem Fld.growM {S b p : Nat} [NeZero p] (F : Fld w S b p) (h : GrowM w w' c m) (hc : S ≤ c) (hm : S ≤ m) : Fld w' S b p := F.below (h.below F.le hc hm) (Nat.le_refl _)
end
/-- a digest as a value -/
def dgV (d : List Int) : Value := .agg (d.map vi).toArray
/-- what a map of lists has of a group -/
def LIs (w : World) : Option Value → Option (List Int) → Prop
  | none, none => True
  | some v, some l => ∃ A n c, v = .slice A n c ∧ l.length = n ∧ 0 < n ∧ n ≤ 281474976710656 ∧ SL w A l ∧ ∀ x ∈ l, I64 x
  | _, _ => False
def DMap (w : World) (b : Nat) (f : GF) : Prop := ∃ F, MapIs Tryz.prog 92 w b F ∧ ∀ a m, 1 ≤ m → a + m ≤ 65536 → F (Gp a (a + m)) = (f a m).map dgV
def LMap (w : World) (b : Nat) (f : GF) : Prop := ∃ F, MapIs Tryz.prog 92 w b F ∧ ∀ a m, 1 ≤ m → a + m ≤ 65536 → LIs w (F (Gp a (a + m))) (f a m)
/-- what was worked out -/
structure Way (w : World) (y bD bL : Nat) (fD fL : GF) : Prop where
  obj : Blk w y 153 #[.map (some bD), .map (some bL)]
  dig : DMap w bD fD
  lis : LMap w bL fL
  ne : bD ≠ bL
theorem LIs.mono {w w' : World} {o : Option Value} {l : Option (List Int)} (h : LIs w o l) (hs : ∀ A xs, SL w A xs → SL w' A xs) : LIs w' o l := by
  cases o <;> cases l
  · trivial
  · exact h
  · exact h
  · obtain ⟨A, n, c, h1, h2, h3, h4, h5, h6⟩ := h
    exact ⟨A, n, c, h1, h2, h3, h4, hs _ _ h5, h6⟩
section
variable {w w' : World} {y bD bL : Nat} {fD fL : GF}
theorem DMap.isMap (h : DMap w bD fD) : IsMap w bD := h.choose_spec.1.isMap
theorem LMap.isMap (h : LMap w bL fL) : IsMap w bL := h.choose_spec.1.isMap
theorem Way.mapD (h : Way w y bD bL fD fL) : IsMap w bD := h.dig.isMap
theorem Way.mapL (h : Way w y bD bL fD fL) : IsMap w bL := h.lis.isMap
theorem DMap.same (h : DMap w bD fD) (hb : w'.heap[bD]? = w.heap[bD]?) : DMap w' bD fD := by
  obtain ⟨F, h1, h2⟩ := h
  exact ⟨F, h1.same hb, h2⟩
theorem LMap.same (h : LMap w bL fL) (hb : w'.heap[bL]? = w.heap[bL]?) (hs : ∀ A xs, SL w A xs → SL w' A xs) : LMap w' bL fL := by
  obtain ⟨F, h1, h2⟩ := h
  exact ⟨F, h1.same hb, fun a m h3 h4 => (h2 a m h3 h4).mono hs⟩
theorem Way.below (h : Way w y bD bL fD fL) (hb : Below w.heap.size w w') : Way w' y bD bL fD fL :=
  ⟨Blk.below h.obj hb h.obj.lt, h.dig.same (hb.block _ h.mapD.lt), h.lis.same (hb.block _ h.mapL.lt) (fun A xs hs => hs.below hb), h.ne⟩
/-- m[g] of the digests -/
theorem DMap.look (h : DMap w bD fD) {a m : Nat} (h1 : 1 ≤ m) (h2 : a + m ≤ 65536) {d : List Int} (hd : fD a m = some d) :
    (Instr.lookup 150 (.map (some bD)) (.agg #[vi (a : Int), vi ((a + m : Nat) : Int)]) false).run Tryz.prog w = .ok (dgV d) w := by
  obtain ⟨F, h3, h4⟩ := h
  obtain ⟨l, hl⟩ := key_gp (a := a) (c := a + m) (by omega)
  have := h3.look keyed_group Tryz.underlying150 (z := .agg #[vi 0, vi 0, vi 0, vi 0]) (by kernel_rfl) hl
  rw [h4 a m h1 h2, hd] at this
  exact this
end
end Go.Proofs.YtijhajkakmohnaaGreatDoor

/- A region that draws its order, walked by hand: what yields wherever S holds is taken first. Of no program. -/
set_option linter.unusedVariables false
namespace Go.Proofs.YtijhajkakmohnaaGreatDoor
open Go.RowKit
theorem wpAnyH_take_at {P : Program} {ops : Array Oper} {Q : Exit → Act → World → Prop} {md : Region.Mode} {S : World → Prop} {i d : Nat} {oi : Oper} {v : Value} {fuel : Nat} {listed : Array Bool} {a : Act} {w : World} (hi : ops[i]? = some oi) (hd : oi.dst = some d)
    (hs : Region.noSelect ops = true) (hf : Region.free md ops listed i = true) (hr : (Region.ready md ops listed).contains i = true)
    (hQ : ∀ c a w, Q (.panic c) (a.put (some d) v) w → Q (.panic c) a w) (hy : YieldsIf P ops S oi v a) (hS : S w)
    (h : wpAnyH P md ops Q S fuel (listed.setIfInBounds i true) (a.put (some d) v) w) : wpAnyH P md ops Q S (fuel + 1) listed a w := by
  rw [← hd] at h hQ
  exact wpAnyH_take hi hs hf hr hQ hy hS h
end Go.Proofs.YtijhajkakmohnaaGreatDoor
