/- A bundle of texts: Tk, Fm, Fz, Pn, Gk4, Pa1, Pa2, Pa3, Pa5, Pa6, Pb1, Pb2. -/
import Derived.Test.YteceghbjjnknbaaGreatQ08
import Derived.Test.YteceghbjjnknbaaGreatQ09
import Derived.Test.YteceghbjjnknbaaGreatQ02
import Derived.IntWalk
import Derived.Deep.DeepCutAuto
import Derived.Test.YteceghbjjnknbaaGreatQ07
import Derived.Test.YteceghbjjnknbaaGreatQ06
import Derived.Test.YteceghbjjnknbaaGreatQ01
import Derived.Test.YteceghbjjnknbaaGreatQ00
import Derived.Test.YteceghbjjnknbaaGreatQ10
import Derived.Test.YteceghbjjnknbaaGreatQ04
import Derived.Test.YteceghbjjnknbaaGreatQ12
import Derived.Test.YteceghbjjnknbaaGreatQ11
import Derived.Laws.MakeOwn
set_option linter.unusedVariables false
set_option linter.unusedSimpArgs false
namespace Go.Proofs.YteceghbjjnknbaaGreat
open Go.RowKit Zp
section
variable {p k : Nat} [NeZero p]
theorem digL_congrT {l m : List Int} (h : els p l = els p m) : digL p k l = digL p k m := by
  have hl : l.length = m.length := by
    have := congrArg List.length h
    simpa [els] using this
  unfold digL digE
  have e : padE p l = padE p m := by funext j; unfold padE; rw [h]
  rw [e, hl]
theorem els_cons (x : Int) (l : List Int) : els p (x :: l) = el p x :: els p l := by simp [els]
theorem digL_els (x : Int) (l : List Int) : digL p k (x :: fvs (els p l)) = digL p k (x :: l) := digL_congrT (by rw [els_cons, els_cons, els_fvs])
theorem els_digL (l : List Int) : fvs (els p (digL p k l)) = digL p k l := by
  unfold digL
  simp only [fvs, els, List.map_map]
  congr 1
  funext j
  simp [el_fv]
theorem els_rootD (r : Nat → List Int) (a n : Nat) : fvs (els p (rootD (digL p k) r a n)) = rootD (digL p k) r a n := by
  by_cases h : 2 ≤ n
  · rw [rootD_two _ _ _ h, els_digL]
  · rw [rootD_one _ _ _ h, els_digL]
theorem rowAt_opened (ls : List (List Int)) {T : List Int} (hT : Asc T) {a : Nat} (hs : shownB T a 1 = true) : rowAt T (openR p ls T) a = fvs (els p (rowF ls a)) := by
  obtain ⟨h1, h2⟩ := shown_one hT a hs
  unfold rowAt openR
  rw [List.getD_eq_getElem?_getD, List.getElem?_map, h2]
  simp
theorem taken_opened (ls : List (List Int)) (l : List Int) (N : Nat) (h1 : 1 ≤ N) (hN : N ≤ 65536) (hin : ∀ x ∈ l, 0 ≤ x ∧ x < (N : Int)) :
    TakenP p k (onceL l) (openR p ls (onceL l)) ((hidL (onceL l) 0 N).map fun g => rootD (digL p k) (rowF ls) g.1 g.2) (rootD (digL p k) (rowF ls) 0 N) N := by
  have hT := asc_onceL l
  have hc := climb_root (digL p k) (fun x => fvs (els p x)) (fun i => fvs (els p (rowAt (onceL l) (openR p ls (onceL l)) i))) (rowF ls) (onceL l) els_digL (fun a n hs _ => by
    rw [rowAt_opened ls hT hs, els_fvs, digL_els]) N 0 [] h1
  rw [List.append_nil] at hc
  refine ⟨⟨by omega, by omega⟩, rootD_len p k _ _ _, openR_len p ls _, ⟨hT, fun x hx => hin x ((mem_onceL x l).1 hx)⟩, by simp, fun x hx => ?_, ?_⟩
  · obtain ⟨g, _, rfl⟩ := List.mem_map.1 hx
    exact rootD_len p k _ _ _
  · rw [Int.toNat_natCast, hc, els_rootD]
end
end Go.Proofs.YteceghbjjnknbaaGreat

namespace Go.Proofs.YteceghbjjnknbaaGreat
open Go.RowKit Zp
end Go.Proofs.YteceghbjjnknbaaGreat

namespace Go.Proofs.YteceghbjjnknbaaGreat
open Go.RowKit Zp
end Go.Proofs.YteceghbjjnknbaaGreat

namespace Go.Proofs.YteceghbjjnknbaaGreat
open Go.RowKit Zp
def PlaceNew {p : Nat} [NeZero p] (k c s : Nat) (D : List Int) (n : Int) (w : World) (e : Ending) (w' : World) : Prop := e = .returned (vi (placeV p (drawnL p k D) n)) ∧ Chn w' c s (drawnL p k D) ∧ w.grownBy w' (some c) ∧ DigNew w' c w.heap.size
set_option maxRecDepth 100000 in
set_option maxHeartbeats 4000000 in
theorem chplace_new (p S b s k z c : Nat) [NeZero p] (oo : Nat → Nat → Fin p) (D : List Int) (n : Int) (hn1 : 1 ≤ n) (hn2 : n ≤ 65536) (w : World) (F : Fld w S b p) (G : Spg w s b k z oo) (hS : S ≤ c) (hsc : s < c) (hC : Chn w c s D) :
    Calls Tryz.prog 92 #[.pointer (some ⟨c, 0, none⟩), vi n] w fun e w' => PlaceNew (p := p) k c s D n w e w' := by
  have hm := F.max
  have hd := Lib.hid (chdraw_any p S b s k z c oo D w F G hS hsc hC)
  have HF := Lib.hid F
  have HG := Lib.hid G
  have hcw := hC.lt
  clear F G hC
  go_enter Tryz.func92, Tryz.ntmps92
  go_wp2_with fail
  refine (hd.out).mono ?_
  rintro _ w3 ⟨rfl, hc3, hg3, hnw3⟩
  obtain ⟨x0, hx0⟩ := digL_bounds (p := p) (k := k) (4 :: D) (show 0 < 4 by omega)
  obtain ⟨x1, hx1⟩ := digL_bounds (p := p) (k := k) (4 :: D) (show 1 < 4 by omega)
  have hbc : Below c w w3 := (Below.refl c w).grown hg3 (by omega) (fun k hk => by injection hk with hk; omega)
  have hF3 := HF.out.below hbc hS
  have hG3 := HG.out.below hbc hsc
  obtain ⟨g, cg, t, cs, h1, h2, h3, h4, h5, h6, h7, h8⟩ := id hc3
  have hc0 : w3.cell? ⟨c, 0, none⟩ = some (.pointer (some ⟨s, 0, none⟩)) := (Blk.cell h1 0).trans rfl
  have hcd3 : w3.cell? ⟨c, 1, none⟩ = some (.slice (some ⟨g, 0, none⟩) 4 cg) := (Blk.cell h1 1).trans rfl
  have hg1 : w3.cell? ⟨g, 1, none⟩ = some (vi (fv x1)) := by
    obtain ⟨ad, ea, _, hc⟩ := SL.at_ (k := 1) h4 (by rw [h5]; omega)
    injection ea with ea
    subst ea
    rw [Addr.add_mid] at hc
    rw [hc, ← hx1]
    simp only [drawnL, List.getD, List.getElem?_eq_getElem (show 1 < (digL p k (4 :: D)).length by rw [digL_len]; omega), Option.getD_some]
  have e0 : (drawnL p k D).getD 0 0 = fv x0 := hx0
  have e1 : (drawnL p k D).getD 1 0 = fv x1 := hx1
  rw [e0]
  have a1 := fv_nonneg x0
  have a2 := fv_lt x0
  have b1 := fv_nonneg x1
  have b2 := fv_lt x1
  obtain ⟨M, hM⟩ : ∃ M, M = fv x0 * (p : Int) := ⟨_, rfl⟩
  have m1 : 0 ≤ M := by rw [hM]; exact Int.mul_nonneg a1 (by omega)
  have m2 : M ≤ 4611686018427387904 := by
    rw [hM]
    have := Int.mul_le_mul (show fv x0 ≤ 2147483647 by omega) (show (p : Int) ≤ 2147483647 by omega) (by omega) (by omega)
    omega
  have HR := Lib.hid (show PlaceNew (p := p) k c s D n w (.returned (vi ((M + fv x1) % n))) w3 from ⟨by unfold placeV; rw [e0, e1, hM], hc3, hg3, hnw3⟩)
  have HFD := Lib.hid (fun a => sfield_s s b k z oo (w3.drewN a) (hG3.below (below_drewN (Below.refl _ _) a) (block_lt_of_cell hG3.c0)))
  have HPP := Lib.hid (fun a => p_any p b (w3.drewN a) (by exact hF3.c0))
  have w1 : IntKind.i64.wrap (fv x0 * (p : Int)) = M := by rw [← hM]; exact IntWalk.i64_in _ (by omega)
  have w2 : IntKind.i64.wrap (M + fv x1) = M + fv x1 := IntWalk.i64_in _ (by omega)
  have nz : ¬ n = 0 := by omega
  have tm : (M + fv x1).tmod n = (M + fv x1) % n := Int.tmod_eq_emod_of_nonneg (by omega)
  clear hM hx0 hx1 e0 e1 hnw3 hc3 hg3 hbc hF3 hG3 h1 h2 h3 h4 h5 h6 h7 h8
  go_wp2
  go_quiet ((first | (go_at_call 6; exact quiet_eq (HFD.out _)) | (go_at_call 18; exact quiet_eq (HPP.out _))))
  go_wp2
  go_ret
  obtain ⟨r1, r2, r3, r4⟩ := HR.out
  exact ⟨r1, r2, ⟨r3.os, r3.tape, r3.output, r3.size, r3.block⟩, r4⟩
def iterP (p k : Nat) [NeZero p] (D : List Int) : Nat → List Int
  | 0 => D
  | n + 1 => drawnL p k (iterP p k D n)
def placesL (p k : Nat) [NeZero p] (D : List Int) (N : Int) (n : Nat) : List Int := (List.range n).map fun i => placeV p (iterP p k D (i + 1)) N
theorem placesL_succ (p k : Nat) [NeZero p] (D : List Int) (N : Int) (n : Nat) : placesL p k D N (n + 1) = placesL p k D N n ++ [placeV p (iterP p k D (n + 1)) N] := by simp [placesL, List.range_succ]
theorem placesL_len (p k : Nat) [NeZero p] (D : List Int) (N : Int) (n : Nat) : (placesL p k D N n).length = n := by simp [placesL]
theorem placesL_in (p k : Nat) [NeZero p] (D : List Int) (N : Int) (n : Nat) (hN : 1 ≤ N) : ∀ x ∈ placesL p k D N n, 0 ≤ x ∧ x < N := fun x hx => by
  obtain ⟨i, _, rfl⟩ := List.mem_map.1 hx
  exact ⟨Int.emod_nonneg _ (by omega), Int.emod_lt_of_pos _ (by omega)⟩
end Go.Proofs.YteceghbjjnknbaaGreat

namespace Go.Proofs.YteceghbjjnknbaaGreat
open Go.RowKit Zp
section
variable (p kk : Nat) [NeZero p] (T : Nat → Fin p) (a b n : Nat) (s r : Fin p)
def prow (i : Nat) : List (Fin p) := tab (2 ^ b) fun j => T (i * 2 ^ b + j)
def pcol (j : Nat) : List Int := (List.range (2 ^ a)).map fun i => fv (ev (prow p T b i) (s * pw r j))
def pcols : List (List Int) := (List.range n).map (pcol p T a b s r)
def proot : List Int := rootD (digL p kk) (rowF (pcols p T a b n s r)) 0 n
variable (D : List Int) (at_ : List Int) (asked : Nat)
def pd3 : List Int := drawnL p kk (digL p kk (3 :: (digL p kk (3 :: (D ++ proot p kk T a b n s r)) ++ at_)))
def pmix : List Int := fvs (tab (2 ^ b) (mixE T (2 ^ a) (2 ^ b) fun i => pw (el p ((pd3 p kk T a b n s r D at_).getD 0 0)) i))
def ppnt : List Int := fvs (tab (2 ^ b) (mixE T (2 ^ a) (2 ^ b) (wtL (els p (at_.take a)))))
def pd5 : List Int := digL p kk (3 :: (digL p kk (3 :: (pd3 p kk T a b n s r D at_ ++ pmix p kk T a b n s r D at_)) ++ ppnt p T a b at_))
def ppl : List Int := onceL (placesL p kk (pd5 p kk T a b n s r D at_) (n : Int) asked)
end
section
variable {p kk : Nat} [NeZero p] {T : Nat → Fin p} {a b n : Nat} {s r : Fin p} {D at_ : List Int} {asked : Nat}
theorem pcol_length (j : Nat) : (pcol p T a b s r j).length = 2 ^ a := by simp [pcol]
theorem pcols_length : (pcols p T a b n s r).length = n := by simp [pcols]
theorem rowF_pcols {j : Nat} (h : j < n) : rowF (pcols p T a b n s r) j = pcol p T a b s r j := by
  unfold rowF pcols
  rw [List.getD_eq_getElem?_getD, List.getElem?_map, List.getElem?_range h]; rfl
theorem els_pcol (j : Nat) : fvs (els p (pcol p T a b s r j)) = pcol p T a b s r j := by
  unfold pcol fvs els
  rw [List.map_map, List.map_map]
  exact List.map_congr_left fun i _ => by simp [el_fv]
theorem agrees_ok (w : Nat → Fin p) (j : Nat) : (sumT (2 ^ a) fun i => w i * el p ((pcol p T a b s r j).getD i 0)) = ev (tab (2 ^ b) (mixE T (2 ^ a) (2 ^ b) w)) (s * pw r j) := by
  rw [mix_ev]
  refine sumT_congr fun i hi => ?_
  have : (pcol p T a b s r j).getD i 0 = fv (ev (prow p T b i) (s * pw r j)) := by
    unfold pcol
    rw [List.getD_eq_getElem?_getD, List.getElem?_map, List.getElem?_range hi]; rfl
  rw [this, el_fv]
  rfl
theorem pledge_is (hat : at_.length = a + b) : (sumT (2 ^ b) fun j => el p ((ppnt p T a b at_).getD j 0) * wtL (els p (at_.drop a)) j) = extF T (els p at_) := by
  have h1 := mix_is T (els p (at_.take a)) (els p (at_.drop a))
  have la : (els p (at_.take a)).length = a := by rw [els, List.length_map, List.length_take]; omega
  have lb : (els p (at_.drop a)).length = b := by rw [els, List.length_map, List.length_drop]; omega
  rw [la, lb] at h1
  have e : els p (at_.take a) ++ els p (at_.drop a) = els p at_ := by rw [els, els, els, ← List.map_append, List.take_append_drop]
  rw [e] at h1
  rw [← h1]
  refine sumT_congr fun j hj => ?_
  have : el p ((ppnt p T a b at_).getD j 0) = mixE T (2 ^ a) (2 ^ b) (wtL (els p (at_.take a))) j := by
    unfold ppnt
    rw [← co_els, els_fvs, co_tab, if_pos hj]
  rw [this]
theorem ppl_in (hn : 1 ≤ n) : ∀ x ∈ ppl p kk T a b n s r D at_ asked, 0 ≤ x ∧ x < (n : Int) := fun x hx => placesL_in p kk _ _ _ (by omega) x ((mem_onceL x _).1 hx)
end
end Go.Proofs.YteceghbjjnknbaaGreat

namespace Go.Proofs.YteceghbjjnknbaaGreat
open Go.RowKit Zp
def ShapeAt (w : World) (x b Dd v : Nat) : Prop := Blk w x 103 #[.pointer (some ⟨b, 0, none⟩), .pointer (some ⟨Dd, 0, none⟩), vi ((v / 2 : Nat) : Int), vi ((v - v / 2 : Nat) : Int)]
def ShapedIs (b Dd v n : Nat) (w : World) (e : Ending) (w' : World) : Prop := ∃ x, e = .returned (.tuple #[.pointer (some ⟨x, 0, none⟩), .bool (decide (2 ^ (v - v / 2) ≤ n / 2))]) ∧ w.heap.size ≤ x ∧ ShapeAt w' x b Dd v ∧ Below w.heap.size w w'
set_option maxRecDepth 100000 in
set_option maxHeartbeats 4000000 in
theorem shaped_any (b Dd v n : Nat) (hv : v ≤ 12) (hn : n ≤ 65536) (w : World) (c0 : w.cell? ⟨Dd, 0, none⟩ = some (.pointer (some ⟨b, 0, none⟩))) (c1 : w.cell? ⟨Dd, 1, none⟩ = some (vi n)) :
    Calls Tryz.prog 47 #[.pointer (some ⟨Dd, 0, none⟩), vi v] w (ShapedIs b Dd v n w) := by
  obtain ⟨a, ha⟩ : ∃ a, a = v / 2 := ⟨_, rfl⟩
  obtain ⟨b2, hb2⟩ : ∃ b2, b2 = v - a := ⟨_, rfl⟩
  have ha1 : (v : Int) / 2 = (a : Int) := by rw [ha]; omega
  have ha2 : (v : Int).tdiv 2 = (a : Int) := by rw [Int.tdiv_eq_ediv_of_nonneg (by omega)]; exact ha1
  have hw1 : IntKind.i64.wrap (a : Int) = (a : Int) := IntWalk.i64_in _ (by constructor <;> omega)
  have hs : IntKind.i64.wrap ((v : Int) - (a : Int)) = (b2 : Int) := by rw [IntWalk.i64_in _ (by constructor <;> omega)]; omega
  have hb6 : b2 ≤ 12 := by omega
  obtain ⟨P, hP⟩ : ∃ P : Nat, P = 2 ^ b2 := ⟨_, rfl⟩
  have hP4 : P ≤ 4096 := by rw [hP]; exact Nat.pow_le_pow_right (n := 2) (by omega) hb6
  have hpw : ((2 : Int) ^ b2) = (P : Int) := by rw [hP, Int.natCast_pow]; rfl
  have hmin : min b2 64 = b2 := by omega
  have hw2 : IntKind.i64.wrap (P : Int) = (P : Int) := IntWalk.i64_in _ (by constructor <;> omega)
  obtain ⟨h, hh⟩ : ∃ h, h = n / 2 := ⟨_, rfl⟩
  have hh1 : (n : Int) / 2 = (h : Int) := by rw [hh]; omega
  have hh2 : (n : Int).tdiv 2 = (h : Int) := by rw [Int.tdiv_eq_ediv_of_nonneg (by omega)]; exact hh1
  have hw3 : IntKind.i64.wrap (h : Int) = (h : Int) := IntWalk.i64_in _ (by constructor <;> omega)
  have HFD := Lib.hid (fun W hc => dfield_any Dd b W hc)
  have HSZ := Lib.hid (fun W hc => size_any Dd n W hc)
  obtain ⟨w2, hw⟩ : ∃ w2, w2 = (w.alloc (.cells #[.pointer (some ⟨b, 0, none⟩), .pointer (some ⟨Dd, 0, none⟩), vi (a : Int), vi (b2 : Int)] 103)) := ⟨_, rfl⟩
  have hbw : Below w.heap.size w w2 := by rw [hw]; exact (Below.refl _ _).alloc (Nat.le_refl _) _
  have hB : Blk w2 w.heap.size 103 #[.pointer (some ⟨b, 0, none⟩), .pointer (some ⟨Dd, 0, none⟩), vi (a : Int), vi (b2 : Int)] := by rw [hw]; exact Blk.new _ _ _
  have z3 := (hB.cell 3).trans (show _ = some (vi (b2 : Int)) from rfl)
  have c1' := (hbw.cell (block_lt_of_cell c1)).trans c1
  have HW := Lib.hid hw
  have HFIN := Lib.hid (And.intro hB (And.intro hbw (And.intro ha (And.intro hb2 (And.intro hP hh)))))
  clear hbw hB hw ha hb2 hP hh
  go_enter Tryz.func47, Tryz.ntmps47
  go_wp2_with fail
  refine (HFD.out _ c0).mono ?_
  rintro _ _ ⟨rfl, rfl⟩
  go_upto_region 3 with (fail)
  rw [← HW.out]
  refine wp_region_held_drew (S := fun W => W.cell? ⟨w.heap.size, 3, none⟩ = some (vi (b2 : Int))) (by kernel_rfl) z3 (fun hHeld => ?_)
  refine tkH 0 ?_
  refine tkH 1 ?_
  refine tkH 2 ?_
  refine tkH 3 ?_
  refine tkH 4 ?_
  refine tkH 5 ?_
  refine tkH 6 ?_
  refine stH 7 (fun K hK => ?_)
  go_simp
  refine (HSZ.out w2.drew c1').mono ?_
  rintro _ _ ⟨rfl, rfl⟩
  refine hK.out _ _ z3 (fun hHeld => ?_)
  clear hK K
  (try simp only [Act.put, List.setIfInBounds_toArray, List.set_cons_zero, List.set_cons_succ])
  refine tkH 8 ?_
  refine tkH 9 ?_
  refine tkH 10 ?_
  refine tkH 11 ?_
  refine wpAnyH_done (by kernel_rfl) ?_ _
  clear hHeld
  go_wp2
  go_ret2
  obtain ⟨f1, f2, f3, f4, f5, f6⟩ := HFIN.out
  refine ⟨w.heap.size, ?_, Nat.le_refl _, ?_, below_drewN f2 1⟩
  · have e : decide (P ≤ h) = decide (2 ^ (v - v / 2) ≤ n / 2) := by
      rw [← f3, ← f4, ← f5, ← f6]
    rw [← e]
    rfl
  · unfold ShapeAt
    rw [← f3, ← f4]
    exact f1.drew
set_option maxRecDepth 100000 in
theorem of_yes (b Dd v n : Nat) (hv : v ≤ 12) (hn : n ≤ 65536) (A : Option Addr) (m c : Nat) (hm : m = 2 ^ v) (w : World) (c0 : w.cell? ⟨Dd, 0, none⟩ = some (.pointer (some ⟨b, 0, none⟩))) (c1 : w.cell? ⟨Dd, 1, none⟩ = some (vi n)) :
    Calls Tryz.prog 31 #[.pointer (some ⟨Dd, 0, none⟩), .slice A m c] w (ShapedIs b Dd v n w) := by
  have hcu : Cube m v := ⟨hv, hm⟩
  have h1 := hcu.pos
  have h2 := hcu.le
  have t1 : (bits .and .i64 (m : Int) ((m : Int) - 1) != 0) = false := by rw [and_pred m h1 (by omega), hcu.and]; rfl
  have t0 : ((m : Int) == 0) = false := by rw [beq_eq_false_iff_ne]; omega
  have hl := Lib.hid (len_pow m v hcu)
  have k2 : ¬ (4096 : Int) < (m : Int) := by omega
  have HS := Lib.hid (shaped_any b Dd v n hv hn w c0 c1)
  clear hcu c0 c1 hm
  go_enter Tryz.func31, Tryz.ntmps31
  go_wp2_with fail
  refine (hl.out _).mono ?_
  rintro _ _ ⟨rfl, rfl⟩
  go_wp2_with fail
  refine HS.out.mono ?_
  rintro _ w2 ⟨x, rfl, hx, hX, hb⟩
  have HF := Lib.hid (show ShapedIs b Dd v n w (.returned (.tuple #[.pointer (some ⟨x, 0, none⟩), .bool (decide (2 ^ (v - v / 2) ≤ n / 2))])) w2 from ⟨x, rfl, hx, hX, hb⟩)
  clear hx hX hb
  go_wp2
  go_ret2
  exact HF.out
end Go.Proofs.YteceghbjjnknbaaGreat

namespace Go.Proofs.YteceghbjjnknbaaGreat
open Go.RowKit Zp
theorem SL.cutO {w : World} {B : Option Addr} {xs : List Int} (h : SL w B xs) (c cut : Nat) (hk : cut ≤ xs.length) (hc : xs.length ≤ c) : SL w (if c = cut then B else Option.map (fun x => x.add cut) B) (xs.drop cut) := by
  have h1 := Reads.cut (k := cut) (cap := c) h hk hc
  rw [Nat.mul_one] at h1
  unfold SL
  rw [List.length_drop, List.map_drop]
  exact h1
def isE {p : Nat} [NeZero p] (pts : List Int) (ys : List (Fin p)) (j : Nat) : Fin p := el p (pts.getD j 0) * wtL ys j
set_option maxRecDepth 100000 in
set_option maxHeartbeats 4000000 in
theorem is_any (p S b x Dd v : Nat) [NeZero p] (hv : v ≤ 12) (A : Option Addr) (m cA : Nat) (pts : List Int) (hpl : pts.length = m) (hm : m ≤ 4096) (hpI : ∀ x ∈ pts, I64 x) (B : Option Addr) (cB : Nat) (hcB : v ≤ cB) (hcB9 : cB ≤ 9223372036854775807) (xs : List Int) (hxl : xs.length = v) (hxI : ∀ x ∈ xs, I64 x) (w : World) (F : Fld w S b p) (hX : ShapeAt w x b Dd v) (hsp : SL w A pts) (hsx : SL w B xs) :
    Calls Tryz.prog 46 #[.pointer (some ⟨x, 0, none⟩), .slice A m cA, .slice B v cB] w fun e w' => e = .returned (vi (fv (sumT m (isE pts (els p (xs.drop (v / 2))))))) ∧ Below w.heap.size w w' := by
  have hp1 := F.two
  have hp2 := F.max
  obtain ⟨a, ha⟩ : ∃ a, a = v / 2 := ⟨_, rfl⟩
  have hav : a ≤ v := by omega
  have hac : a ≤ cB := by omega
  obtain ⟨AY, hAY⟩ : ∃ AY, AY = (if cB = a then B else Option.map (fun x => x.add a) B) := ⟨_, rfl⟩
  have hsy : SL w AY (xs.drop a) := by rw [hAY]; exact hsx.cutO cB a (by omega) (by omega)
  have c0 := (Blk.cell hX 0).trans (show _ = some (.pointer (some ⟨b, 0, none⟩)) from rfl)
  have c2 := (Blk.cell hX 2).trans (show _ = some (vi ((v / 2 : Nat) : Int)) from rfl)
  rw [← ha] at c2
  rw [← ha]
  have hyl : (xs.drop a).length = v - a := by rw [List.length_drop, hxl]
  have HU := Lib.hid (fun (i : Nat) (hi : i ≤ 4096) W hc hs => unit_any p hp2 hp1 b i (by omega) AY (v - a) (cB - a) (xs.drop a) hyl (by omega) (fun x hx => hxI x (List.mem_of_mem_drop hx)) W hc hs)
  obtain ⟨f, hf⟩ : ∃ f, f = isE pts (els p (xs.drop a)) := ⟨_, rfl⟩
  rw [← hf]
  have HFF := Lib.hid hf
  have HSY := Lib.hid hsy
  have HSP := Lib.hid hsp
  have HPL := Lib.hid hpl
  have HPI := Lib.hid hpI
  have HC := Lib.hid (And.intro F.c0 (And.intro c0 c2))
  have HAY := Lib.hid hAY
  have k9 : (a : Int) ≤ (v : Int) := by omega
  clear F hX hsp hsx hsy hyl hxl hxI hpl hpI hf ha c0 c2
  go_enter Tryz.func46, Tryz.ntmps46
  go_wp2
  go_loopw [7, 12] (fun sv i wr => ∃ t : Nat, t ≤ m ∧ sv = vi (fv (sumT t f)) ∧ i = vi t ∧ Below w.heap.size w wr) (fun _ i _ => m - (intOf i).toNat)
  case atStart => exact ⟨0, Nat.zero_le _, by rw [sumT, fv_zero], rfl, Below.refl _ _⟩
  case round =>
    rename World => w1
    obtain ⟨t, ht, rfl, rfl, hb⟩ := hrel
    by_cases htm : t < m
    · have htp : t < pts.length := by rw [HPL.out]; exact htm
      obtain ⟨ad, rfl, _, cx⟩ := (HSP.out.below hb).at_ htp
      have hIx := HPI.out _ (List.getElem_mem htp)
      obtain ⟨y, hy⟩ : ∃ y, y = pts[t] := ⟨_, rfl⟩
      have hft : f t = el p y * wtL (els p (xs.drop a)) t := by rw [HFF.out, isE, List.getD_eq_getElem?_getD, List.getElem?_eq_getElem htp, Option.getD_some, hy]
      rw [← hy] at cx hIx
      have i1 : (0 : Int) ≤ (t : Int) := by omega
      have i2 : (t : Int) < (m : Int) := by omega
      obtain ⟨u, hu⟩ : ∃ u, u = wtL (els p (xs.drop a)) t := ⟨_, rfl⟩
      rw [← hu] at hft
      have HST := Lib.hid (show sumT (t + 1) f = sumT t f + el p y * u by rw [sumT_succ, hft])
      have HUU := Lib.hid hu
      have KX : Hid (∀ W, Below w1.heap.size w1 W → W.cell? ⟨b, 0, none⟩ = some (vi p) ∧ (W.cell? ⟨x, 0, none⟩ = some (.pointer (some ⟨b, 0, none⟩)) ∧ W.cell? ⟨x, 2, none⟩ = some (vi (a : Int))) ∧ SL W AY (xs.drop a) ∧ Below w.heap.size w W) := Lib.hid fun W e => by
        have h := hb.trans (e.mono hb.size)
        exact ⟨(h.cell (block_lt_of_cell HC.out.1)).trans HC.out.1, ⟨(h.cell (block_lt_of_cell HC.out.2.1)).trans HC.out.2.1, (h.cell (block_lt_of_cell HC.out.2.2)).trans HC.out.2.2⟩, HSY.out.below h, h⟩
      clear hft hu hy hb
      go_upto_region 5 with (fail)
      have h0 : Below w1.heap.size w1 w1.drew := below_drewN (Below.refl _ _) 1
      refine wp_region_held_drew (S := fun W => W.cell? ⟨x, 0, none⟩ = some (.pointer (some ⟨b, 0, none⟩)) ∧ W.cell? ⟨x, 2, none⟩ = some (vi (a : Int))) (by kernel_rfl) (KX.out _ h0).2.1 (fun hHeld => ?_)
      refine tkH 0 ?_
      refine tkH 1 ?_
      refine tkH 2 ?_
      refine tkH 3 ?_
      refine tkH 4 ?_
      refine tkH 5 ?_
      refine tkH 6 ?_
      refine tkH 7 ?_
      refine tkH 8 ?_
      refine tkH 9 ?_
      refine tkH 10 ?_
      refine tkH 11 ?_
      refine tkH 12 ?_
      refine tkH 13 ?_
      refine tkH 14 ?_
      refine tkH 15 ?_
      refine tkH 16 ?_
      refine tkH 17 ?_
      refine tkH 18 ?_
      refine tkH 19 ?_
      refine tkH 20 ?_
      refine stH 21 (fun K hK => ?_)
      go_simp
      rw [← HAY.out]
      refine (HU.out t (by omega) w1.drew (KX.out _ h0).1 (KX.out _ h0).2.2.1).mono ?_
      rw [← HUU.out]
      rintro _ w5 ⟨rfl, k5, h5⟩
      have e5 : Below w1.heap.size w1 w5 := by rw [h5]; exact below_drewN h0 _
      clear h5
      refine hK.out _ _ (KX.out _ e5).2.1 (fun hHeld => ?_)
      clear hK K
      (try simp only [Act.put, List.setIfInBounds_toArray, List.set_cons_zero, List.set_cons_succ])
      refine stH 22 (fun K hK => ?_)
      go_simp
      refine (mul_any p hp2 b y (fv u) hIx (i64_fv _ hp2) w5 (KX.out _ e5).1).mono ?_
      simp only [el_fv]
      rintro _ w6 ⟨rfl, k6, h6⟩
      have e6 : Below w1.heap.size w1 w6 := by rw [h6]; exact below_drewN e5 _
      clear h6
      refine hK.out _ _ (KX.out _ e6).2.1 (fun hHeld => ?_)
      clear hK K
      (try simp only [Act.put, List.setIfInBounds_toArray, List.set_cons_zero, List.set_cons_succ])
      refine stH 23 (fun K hK => ?_)
      go_simp
      refine (add_any p hp2 b _ _ (i64_fv _ hp2) (i64_fv _ hp2) w6 (KX.out _ e6).1).mono ?_
      simp only [el_fv]
      rintro _ w7 ⟨rfl, k7, h7⟩
      have e7 : Below w1.heap.size w1 w7 := by rw [h7]; exact below_drewN e6 _
      clear h7
      refine hK.out _ _ (KX.out _ e7).2.1 (fun hHeld => ?_)
      clear hK K
      (try simp only [Act.put, List.setIfInBounds_toArray, List.set_cons_zero, List.set_cons_succ])
      refine tkH 24 ?_
      refine wpAnyH_done (by kernel_rfl) ?_ _
      have HE := Lib.hid (KX.out _ e7).2.2.2
      clear hHeld e5 e6 e7 h0 KX cx
      go_wp2
      go_roundw
      case rel => exact ⟨t + 1, by omega, by rw [HST.out], by go_num, HE.out⟩
      case measure => simp only [intOf, Int.toNat_natCast]; omega
    · obtain rfl : t = m := by omega
      go_wp2
      go_ret
      exact ⟨rfl, hb⟩
end Go.Proofs.YteceghbjjnknbaaGreat

namespace Go.Proofs.YteceghbjjnknbaaGreat
open Go.RowKit Zp
set_option maxRecDepth 100000 in
set_option maxHeartbeats 1000000 in
theorem powO_any (p b x g1 g2 : Nat) [NeZero p] (hp1 : 2 ≤ p) (hp2 : p ≤ 2147483647) (r : Int) (hr : I64 r) (i : Nat) (hi : i ≤ 4096) (w : World) (c1 : w.cell? ⟨g1, 0, none⟩ = some (.pointer (some ⟨x, 0, none⟩))) (c2 : w.cell? ⟨g2, 0, none⟩ = some (vi r)) (c3 : w.cell? ⟨x, 0, none⟩ = some (.pointer (some ⟨b, 0, none⟩))) (cb : w.cell? ⟨b, 0, none⟩ = some (vi p)) :
    Calls Tryz.prog 39 #[vi i, .pointer (some ⟨g1, 0, none⟩), .pointer (some ⟨g2, 0, none⟩)] w fun e w' => e = .returned (vi (fv (pw (el p r) i))) ∧ ∃ k, w' = w.drewN k := by
  have hz : zpw (el p r) (i : Int) = pw (el p r) i := by first | rfl | exact zpw_nat _ _ | simp [zpw]
  have hpw := fun W hc => pow_any p hp1 hp2 b r (i : Int) hr (by constructor <;> omega) W hc
  rw [hz] at hpw
  have HP := Lib.hid hpw
  clear hpw hz
  go_enter Tryz.func39, Tryz.ntmps39
  go_upto_region 1 with (fail)
  refine wp_region_held_drew (S := fun W => W.cell? ⟨g1, 0, none⟩ = some (.pointer (some ⟨x, 0, none⟩)) ∧ W.cell? ⟨g2, 0, none⟩ = some (vi r) ∧ W.cell? ⟨x, 0, none⟩ = some (.pointer (some ⟨b, 0, none⟩))) (by kernel_rfl) ⟨c1, c2, c3⟩ (fun hHeld => ?_)
  refine tkH 0 ?_
  refine tkH 1 ?_
  refine tkH 2 ?_
  refine tkH 3 ?_
  refine tkH 4 ?_
  refine tkH 5 ?_
  refine stH 6 (fun K hK => ?_)
  go_simp
  refine (HP.out w.drew cb).mono ?_
  rintro _ w5 ⟨rfl, k5, h5⟩
  have hS : w5.cell? ⟨g1, 0, none⟩ = some (.pointer (some ⟨x, 0, none⟩)) ∧ w5.cell? ⟨g2, 0, none⟩ = some (vi r) ∧ w5.cell? ⟨x, 0, none⟩ = some (.pointer (some ⟨b, 0, none⟩)) := by rw [h5]; exact ⟨c1, c2, c3⟩
  have HW := Lib.hid (show ∃ k, w5 = w.drewN k from ⟨1 + k5, by rw [h5]; exact World.drewN_drewN w 1 k5⟩)
  clear h5
  refine hK.out _ _ hS (fun hHeld => ?_)
  clear hK K
  (try simp only [Act.put, List.setIfInBounds_toArray, List.set_cons_zero, List.set_cons_succ])
  refine tkH 7 ?_
  refine wpAnyH_done (by kernel_rfl) ?_ _
  clear hHeld
  go_wp2
  go_ret
  exact ⟨rfl, HW.out⟩
set_option maxRecDepth 100000 in
set_option maxHeartbeats 1000000 in
theorem powC_any (p b x g1 g2 : Nat) [NeZero p] (hp1 : 2 ≤ p) (hp2 : p ≤ 2147483647) (r : Int) (hr : I64 r) (i : Nat) (hi : i ≤ 4096) (w : World) (c1 : w.cell? ⟨g1, 0, none⟩ = some (.pointer (some ⟨x, 0, none⟩))) (c2 : w.cell? ⟨g2, 0, none⟩ = some (vi r)) (c3 : w.cell? ⟨x, 0, none⟩ = some (.pointer (some ⟨b, 0, none⟩))) (cb : w.cell? ⟨b, 0, none⟩ = some (vi p)) :
    Calls Tryz.prog 53 #[vi i, .pointer (some ⟨g1, 0, none⟩), .pointer (some ⟨g2, 0, none⟩)] w fun e w' => e = .returned (vi (fv (pw (el p r) i))) ∧ ∃ k, w' = w.drewN k := by
  have hz : zpw (el p r) (i : Int) = pw (el p r) i := by first | rfl | exact zpw_nat _ _ | simp [zpw]
  have hpw := fun W hc => pow_any p hp1 hp2 b r (i : Int) hr (by constructor <;> omega) W hc
  rw [hz] at hpw
  have HP := Lib.hid hpw
  clear hpw hz
  go_enter Tryz.func53, Tryz.ntmps53
  go_upto_region 1 with (fail)
  refine wp_region_held_drew (S := fun W => W.cell? ⟨g1, 0, none⟩ = some (.pointer (some ⟨x, 0, none⟩)) ∧ W.cell? ⟨g2, 0, none⟩ = some (vi r) ∧ W.cell? ⟨x, 0, none⟩ = some (.pointer (some ⟨b, 0, none⟩))) (by kernel_rfl) ⟨c1, c2, c3⟩ (fun hHeld => ?_)
  refine tkH 0 ?_
  refine tkH 1 ?_
  refine tkH 2 ?_
  refine tkH 3 ?_
  refine tkH 4 ?_
  refine tkH 5 ?_
  refine stH 6 (fun K hK => ?_)
  go_simp
  refine (HP.out w.drew cb).mono ?_
  rintro _ w5 ⟨rfl, k5, h5⟩
  have hS : w5.cell? ⟨g1, 0, none⟩ = some (.pointer (some ⟨x, 0, none⟩)) ∧ w5.cell? ⟨g2, 0, none⟩ = some (vi r) ∧ w5.cell? ⟨x, 0, none⟩ = some (.pointer (some ⟨b, 0, none⟩)) := by rw [h5]; exact ⟨c1, c2, c3⟩
  have HW := Lib.hid (show ∃ k, w5 = w.drewN k from ⟨1 + k5, by rw [h5]; exact World.drewN_drewN w 1 k5⟩)
  clear h5
  refine hK.out _ _ hS (fun hHeld => ?_)
  clear hK K
  (try simp only [Act.put, List.setIfInBounds_toArray, List.set_cons_zero, List.set_cons_succ])
  refine tkH 7 ?_
  refine wpAnyH_done (by kernel_rfl) ?_ _
  clear hHeld
  go_wp2
  go_ret
  exact ⟨rfl, HW.out⟩
set_option maxRecDepth 100000 in
set_option maxHeartbeats 1000000 in
theorem untO_any (p b x g1 g2 a : Nat) [NeZero p] (hp1 : 2 ≤ p) (hp2 : p ≤ 2147483647) (B : Option Addr) (v cB : Nat) (xs : List Int) (hxl : xs.length = v) (hv : v ≤ 12) (hav : a ≤ v) (hcB : v ≤ cB) (hcB9 : cB ≤ 9223372036854775807) (hxI : ∀ x ∈ xs, I64 x) (i : Nat) (hi : i ≤ 4096) (w : World) (c1 : w.cell? ⟨g1, 0, none⟩ = some (.pointer (some ⟨x, 0, none⟩))) (c2 : w.cell? ⟨g2, 0, none⟩ = some (.slice B v cB)) (c3 : w.cell? ⟨x, 0, none⟩ = some (.pointer (some ⟨b, 0, none⟩))) (c4 : w.cell? ⟨x, 2, none⟩ = some (vi (a : Int))) (cb : w.cell? ⟨b, 0, none⟩ = some (vi p)) (hsx : SL w B xs) :
    Calls Tryz.prog 41 #[vi i, .pointer (some ⟨g1, 0, none⟩), .pointer (some ⟨g2, 0, none⟩)] w fun e w' => e = .returned (vi (fv (wtL (els p (xs.take a)) i))) ∧ ∃ k, w' = w.drewN k := by
  have HU := Lib.hid (fun W hc hs => unit_any p hp2 hp1 b i (by omega) B a cB (xs.take a) (by rw [List.length_take, hxl]; omega) (by omega) (fun x hx => hxI x (List.mem_of_mem_take hx)) W hc hs)
  obtain ⟨u, hu⟩ : ∃ u, u = wtL (els p (xs.take a)) i := ⟨_, rfl⟩
  rw [← hu]
  rw [← hu] at HU
  have HS := Lib.hid (hsx.take a)
  have k1 : (a : Int) ≤ (cB : Int) := by omega
  have k2 : a ≤ cB := by omega
  clear hsx hxI hxl hu
  go_enter Tryz.func41, Tryz.ntmps41
  go_upto_region 1 with (fail)
  refine wp_region_held_drew (S := fun W => W.cell? ⟨g1, 0, none⟩ = some (.pointer (some ⟨x, 0, none⟩)) ∧ W.cell? ⟨g2, 0, none⟩ = some (.slice B v cB) ∧ W.cell? ⟨x, 0, none⟩ = some (.pointer (some ⟨b, 0, none⟩)) ∧ W.cell? ⟨x, 2, none⟩ = some (vi (a : Int))) (by kernel_rfl) ⟨c1, c2, c3, c4⟩ (fun hHeld => ?_)
  refine tkH 0 ?_
  refine tkH 1 ?_
  refine tkH 2 ?_
  refine tkH 3 ?_
  refine tkH 4 ?_
  refine tkH 5 ?_
  refine tkH 6 ?_
  refine tkH 7 ?_
  refine tkH 8 ?_
  refine tkH 9 ?_
  refine tkH 10 ?_
  refine stH 11 (fun K hK => ?_)
  go_simp
  refine (HU.out w.drew cb HS.out).mono ?_
  rintro _ w5 ⟨rfl, k5, h5⟩
  have hS : w5.cell? ⟨g1, 0, none⟩ = some (.pointer (some ⟨x, 0, none⟩)) ∧ w5.cell? ⟨g2, 0, none⟩ = some (.slice B v cB) ∧ w5.cell? ⟨x, 0, none⟩ = some (.pointer (some ⟨b, 0, none⟩)) ∧ w5.cell? ⟨x, 2, none⟩ = some (vi (a : Int)) := by rw [h5]; exact ⟨c1, c2, c3, c4⟩
  have HW := Lib.hid (show ∃ k, w5 = w.drewN k from ⟨1 + k5, by rw [h5]; exact World.drewN_drewN w 1 k5⟩)
  clear h5
  refine hK.out _ _ hS (fun hHeld => ?_)
  clear hK K
  (try simp only [Act.put, List.setIfInBounds_toArray, List.set_cons_zero, List.set_cons_succ])
  refine tkH 12 ?_
  refine wpAnyH_done (by kernel_rfl) ?_ _
  clear hHeld
  go_wp2
  go_ret
  exact ⟨rfl, HW.out⟩
set_option maxRecDepth 100000 in
set_option maxHeartbeats 1000000 in
theorem untC_any (p b x g1 g2 a : Nat) [NeZero p] (hp1 : 2 ≤ p) (hp2 : p ≤ 2147483647) (B : Option Addr) (v cB : Nat) (xs : List Int) (hxl : xs.length = v) (hv : v ≤ 12) (hav : a ≤ v) (hcB : v ≤ cB) (hcB9 : cB ≤ 9223372036854775807) (hxI : ∀ x ∈ xs, I64 x) (i : Nat) (hi : i ≤ 4096) (w : World) (c1 : w.cell? ⟨g1, 0, none⟩ = some (.pointer (some ⟨x, 0, none⟩))) (c2 : w.cell? ⟨g2, 0, none⟩ = some (.slice B v cB)) (c3 : w.cell? ⟨x, 0, none⟩ = some (.pointer (some ⟨b, 0, none⟩))) (c4 : w.cell? ⟨x, 2, none⟩ = some (vi (a : Int))) (cb : w.cell? ⟨b, 0, none⟩ = some (vi p)) (hsx : SL w B xs) :
    Calls Tryz.prog 54 #[vi i, .pointer (some ⟨g1, 0, none⟩), .pointer (some ⟨g2, 0, none⟩)] w fun e w' => e = .returned (vi (fv (wtL (els p (xs.take a)) i))) ∧ ∃ k, w' = w.drewN k := by
  have HU := Lib.hid (fun W hc hs => unit_any p hp2 hp1 b i (by omega) B a cB (xs.take a) (by rw [List.length_take, hxl]; omega) (by omega) (fun x hx => hxI x (List.mem_of_mem_take hx)) W hc hs)
  obtain ⟨u, hu⟩ : ∃ u, u = wtL (els p (xs.take a)) i := ⟨_, rfl⟩
  rw [← hu]
  rw [← hu] at HU
  have HS := Lib.hid (hsx.take a)
  have k1 : (a : Int) ≤ (cB : Int) := by omega
  have k2 : a ≤ cB := by omega
  clear hsx hxI hxl hu
  go_enter Tryz.func54, Tryz.ntmps54
  go_upto_region 1 with (fail)
  refine wp_region_held_drew (S := fun W => W.cell? ⟨g1, 0, none⟩ = some (.pointer (some ⟨x, 0, none⟩)) ∧ W.cell? ⟨g2, 0, none⟩ = some (.slice B v cB) ∧ W.cell? ⟨x, 0, none⟩ = some (.pointer (some ⟨b, 0, none⟩)) ∧ W.cell? ⟨x, 2, none⟩ = some (vi (a : Int))) (by kernel_rfl) ⟨c1, c2, c3, c4⟩ (fun hHeld => ?_)
  refine tkH 0 ?_
  refine tkH 1 ?_
  refine tkH 2 ?_
  refine tkH 3 ?_
  refine tkH 4 ?_
  refine tkH 5 ?_
  refine tkH 6 ?_
  refine tkH 7 ?_
  refine tkH 8 ?_
  refine tkH 9 ?_
  refine tkH 10 ?_
  refine stH 11 (fun K hK => ?_)
  go_simp
  refine (HU.out w.drew cb HS.out).mono ?_
  rintro _ w5 ⟨rfl, k5, h5⟩
  have hS : w5.cell? ⟨g1, 0, none⟩ = some (.pointer (some ⟨x, 0, none⟩)) ∧ w5.cell? ⟨g2, 0, none⟩ = some (.slice B v cB) ∧ w5.cell? ⟨x, 0, none⟩ = some (.pointer (some ⟨b, 0, none⟩)) ∧ w5.cell? ⟨x, 2, none⟩ = some (vi (a : Int)) := by rw [h5]; exact ⟨c1, c2, c3, c4⟩
  have HW := Lib.hid (show ∃ k, w5 = w.drewN k from ⟨1 + k5, by rw [h5]; exact World.drewN_drewN w 1 k5⟩)
  clear h5
  refine hK.out _ _ hS (fun hHeld => ?_)
  clear hK K
  (try simp only [Act.put, List.setIfInBounds_toArray, List.set_cons_zero, List.set_cons_succ])
  refine tkH 12 ?_
  refine wpAnyH_done (by kernel_rfl) ?_ _
  clear hHeld
  go_wp2
  go_ret
  exact ⟨rfl, HW.out⟩
theorem wide_any (x g1 a : Nat) (ha : a ≤ 12) (A1 : Option Addr) (n1 c1 : Nat) (l : List Int) (hl : l.length = n1) (hn : n1 ≤ 9223372036854775807) (w : World) (c1' : w.cell? ⟨g1, 0, none⟩ = some (.pointer (some ⟨x, 0, none⟩))) (c4 : w.cell? ⟨x, 2, none⟩ = some (vi (a : Int))) :
    Calls Tryz.prog 48 #[.slice A1 n1 c1, .pointer (some ⟨g1, 0, none⟩)] w fun e w' => e = .returned (.bool (decide (l.length ≠ 2 ^ a))) ∧ w = w' := by
  obtain ⟨P, hP⟩ : ∃ P : Nat, P = 2 ^ a := ⟨_, rfl⟩
  have hP4 : P ≤ 4096 := by rw [hP]; exact Nat.pow_le_pow_right (n := 2) (by omega) ha
  have hpw : ((2 : Int) ^ a) = (P : Int) := by rw [hP, Int.natCast_pow]; rfl
  have hmin : min a 64 = a := by omega
  have hw2 : IntKind.i64.wrap (P : Int) = (P : Int) := IntWalk.i64_in _ (by constructor <;> omega)
  by_cases h : n1 = P
  · have HR := Lib.hid (show decide (l.length ≠ 2 ^ a) = false by rw [hl, ← hP, h]; simp)
    have t1 : ((n1 : Int) != (P : Int)) = false := by rw [h]; simp
    clear hl hP h
    go_enter Tryz.func48, Tryz.ntmps48
    go_wp2
    go_ret
    exact ⟨ret_bool HR.out.symm, rfl⟩
  · have HR := Lib.hid (show decide (l.length ≠ 2 ^ a) = true by rw [hl, ← hP]; simpa using h)
    have t1 : ((n1 : Int) != (P : Int)) = true := by rw [bne_iff_ne]; omega
    clear hl hP h
    go_enter Tryz.func48, Tryz.ntmps48
    go_wp2
    go_ret
    exact ⟨ret_bool HR.out.symm, rfl⟩
theorem asks_any (n : Int) (hn : I64 n) (w : World) :
    Calls Tryz.prog 35 #[vi n] w fun e w' => e = .returned (.bool (decide (1 ≤ n ∧ n ≤ 64))) ∧ w = w' := by
  by_cases h1 : 1 ≤ n
  · by_cases h2 : n ≤ 64
    · have HR := Lib.hid (show decide (1 ≤ n ∧ n ≤ 64) = true by simp [h1, h2])
      go_enter Tryz.func35, Tryz.ntmps35
      go_wp2
      go_ret
      exact ⟨ret_bool (by simp [h1, h2]), rfl⟩
    · have HR := Lib.hid (show decide (1 ≤ n ∧ n ≤ 64) = false by simp [h2])
      go_enter Tryz.func35, Tryz.ntmps35
      go_wp2
      go_ret
      exact ⟨ret_bool (by simp [h2]), rfl⟩
  · have HR := Lib.hid (show decide (1 ≤ n ∧ n ≤ 64) = false by simp [h1])
    go_enter Tryz.func35, Tryz.ntmps35
    go_wp2
    go_ret
    exact ⟨ret_bool (by simp; omega), rfl⟩
end Go.Proofs.YteceghbjjnknbaaGreat

namespace Go.Proofs.YteceghbjjnknbaaGreat
open Go.RowKit Zp
def agE {p : Nat} [NeZero p] (col : List Int) (wt : Nat → Fin p) (i : Nat) : Fin p := wt i * el p (col.getD i 0)
set_option maxRecDepth 100000 in
set_option maxHeartbeats 4000000 in
theorem agrees_any (p S b x Dd v nn : Nat) [NeZero p] (sh : Fin p) (KN g1 g2 : Nat) (hKK : ∀ (args : Array Value) (w : World), (callFunc KN args).run Tryz.prog w = .ok (.enter KN args) w) (wt : Nat → Fin p) (A : Option Addr) (m cA : Nat) (l : List Int) (hll : l.length = m) (hm : m ≤ 4096) (hlI : ∀ x ∈ l, I64 x) (pl : Int) (hpl : I64 pl) (B : Option Addr) (nB cB : Nat) (col : List Int) (hcl : col.length = nB) (hnB : nB ≤ 4096) (hcI : ∀ x ∈ col, I64 x) (w : World) (hD : Dom w S Dd b p nn sh) (hX : ShapeAt w x b Dd v) (hsl : SL w A l) (hsc : SL w B col)
    (hW : ∀ W, Below w.heap.size w W → ∀ i, i < nB → Calls Tryz.prog KN #[vi i, .pointer (some ⟨g1, 0, none⟩), .pointer (some ⟨g2, 0, none⟩)] W fun e w' => e = .returned (vi (fv (wt i))) ∧ ∃ k, w' = W.drewN k) :
    Calls Tryz.prog 52 #[.pointer (some ⟨x, 0, none⟩), .slice A m cA, vi pl, .slice B nB cB, .func (.func KN) #[] #[.pointer (some ⟨g1, 0, none⟩), .pointer (some ⟨g2, 0, none⟩)]] w fun e w' => e = .returned (.bool (decide (sumT nB (agE col wt) = ev (els p l) (sh * pw (rootI p nn) (pl % (nn : Int)).toNat)))) ∧ Below w.heap.size w w' := by
  have F := hD.fld
  have hp2 := F.max
  have c0 := (Blk.cell hX 0).trans (show _ = some (.pointer (some ⟨b, 0, none⟩)) from rfl)
  have c1 := (Blk.cell hX 1).trans (show _ = some (.pointer (some ⟨Dd, 0, none⟩)) from rfl)
  obtain ⟨f, hf⟩ : ∃ f, f = agE col wt := ⟨_, rfl⟩
  rw [← hf]
  have HFF := Lib.hid hf
  have HC := Lib.hid (And.intro F.c0 (And.intro c0 c1))
  have HD := Lib.hid hD
  have HSL := Lib.hid hsl
  have HSC := Lib.hid hsc
  have HCL := Lib.hid hcl
  have HCI := Lib.hid hcI
  have HLL := Lib.hid (And.intro hll hlI)
  have HW := Lib.hid hW
  clear F hD hX hsl hsc hcl hcI hll hlI hW c0 c1 hf
  go_enter Tryz.func52, Tryz.ntmps52
  go_wp2
  go_loopw [11, 16] (fun sv i wr => ∃ t : Nat, t ≤ nB ∧ sv = vi (fv (sumT t f)) ∧ i = vi t ∧ Below w.heap.size w wr) (fun _ i _ => nB - (intOf i).toNat)
  case atStart => exact ⟨0, Nat.zero_le _, by rw [sumT, fv_zero], rfl, Below.refl _ _⟩
  case round =>
    rename World => w1
    obtain ⟨t, ht, rfl, rfl, hb⟩ := hrel
    have KX : Hid (∀ W, Below w1.heap.size w1 W → W.cell? ⟨b, 0, none⟩ = some (vi p) ∧ (W.cell? ⟨x, 0, none⟩ = some (.pointer (some ⟨b, 0, none⟩)) ∧ W.cell? ⟨x, 1, none⟩ = some (.pointer (some ⟨Dd, 0, none⟩))) ∧ Below w.heap.size w W) := Lib.hid fun W e => by
      have h := hb.trans (e.mono hb.size)
      exact ⟨(h.cell (block_lt_of_cell HC.out.1)).trans HC.out.1, ⟨(h.cell (block_lt_of_cell HC.out.2.1)).trans HC.out.2.1, (h.cell (block_lt_of_cell HC.out.2.2)).trans HC.out.2.2⟩, h⟩
    have h0 : Below w1.heap.size w1 w1.drew := below_drewN (Below.refl _ _) 1
    by_cases htm : t < nB
    · have htp : t < col.length := by rw [HCL.out]; exact htm
      obtain ⟨ad, rfl, _, cx⟩ := (HSC.out.below hb).at_ htp
      have hIx := HCI.out _ (List.getElem_mem htp)
      obtain ⟨y, hy⟩ : ∃ y, y = col[t] := ⟨_, rfl⟩
      have hft : f t = wt t * el p y := by rw [HFF.out, agE, List.getD_eq_getElem?_getD, List.getElem?_eq_getElem htp, Option.getD_some, hy]
      rw [← hy] at cx hIx
      have i1 : (0 : Int) ≤ (t : Int) := by omega
      have i2 : (t : Int) < (nB : Int) := by omega
      have HST := Lib.hid (show sumT (t + 1) f = sumT t f + wt t * el p y by rw [sumT_succ, hft])
      have HWT := Lib.hid (HW.out w1.drew (KX.out _ h0).2.2 t htm)
      clear hft hy hb
      go_upto_region 5 with (fail)
      refine wp_region_held_drew (S := fun W => W.cell? ⟨x, 0, none⟩ = some (.pointer (some ⟨b, 0, none⟩)) ∧ W.cell? ⟨x, 1, none⟩ = some (.pointer (some ⟨Dd, 0, none⟩))) (by kernel_rfl) (KX.out _ h0).2.1 (fun hHeld => ?_)
      refine tkH 0 ?_
      refine tkH 1 ?_
      refine tkH 2 ?_
      refine tkH 3 ?_
      refine tkH 4 ?_
      refine tkH 5 ?_
      refine tkH 6 ?_
      refine tkH 7 ?_
      refine tkH 8 ?_
      refine tkH 9 ?_
      refine tkH 10 ?_
      refine tkH 12 ?_
      refine stH 11 (fun K hK => ?_)
      go_simp
      refine HWT.out.mono ?_
      rintro _ w5 ⟨rfl, k5, h5⟩
      have e5 : Below w1.heap.size w1 w5 := by rw [h5]; exact below_drewN h0 _
      clear h5
      refine hK.out _ _ (KX.out _ e5).2.1 (fun hHeld => ?_)
      clear hK K
      (try simp only [Act.put, List.setIfInBounds_toArray, List.set_cons_zero, List.set_cons_succ])
      refine stH 13 (fun K hK => ?_)
      go_simp
      refine (mul_any p hp2 b (fv (wt t)) y (i64_fv _ hp2) hIx w5 (KX.out _ e5).1).mono ?_
      simp only [el_fv]
      rintro _ w6 ⟨rfl, k6, h6⟩
      have e6 : Below w1.heap.size w1 w6 := by rw [h6]; exact below_drewN e5 _
      clear h6
      refine hK.out _ _ (KX.out _ e6).2.1 (fun hHeld => ?_)
      clear hK K
      (try simp only [Act.put, List.setIfInBounds_toArray, List.set_cons_zero, List.set_cons_succ])
      refine stH 14 (fun K hK => ?_)
      go_simp
      refine (add_any p hp2 b _ _ (i64_fv _ hp2) (i64_fv _ hp2) w6 (KX.out _ e6).1).mono ?_
      simp only [el_fv]
      rintro _ w7 ⟨rfl, k7, h7⟩
      have e7 : Below w1.heap.size w1 w7 := by rw [h7]; exact below_drewN e6 _
      clear h7
      refine hK.out _ _ (KX.out _ e7).2.1 (fun hHeld => ?_)
      clear hK K
      (try simp only [Act.put, List.setIfInBounds_toArray, List.set_cons_zero, List.set_cons_succ])
      refine tkH 15 ?_
      refine wpAnyH_done (by kernel_rfl) ?_ _
      have HE := Lib.hid (KX.out _ e7).2.2
      clear hHeld e5 e6 e7 h0 KX cx
      go_wp2
      go_roundw
      case rel => exact ⟨t + 1, by omega, by rw [HST.out], by go_num, HE.out⟩
      case measure => simp only [intOf, Int.toNat_natCast]; omega
    · obtain rfl : t = nB := by omega
      obtain ⟨X, hX⟩ : ∃ X, X = sumT t f := ⟨_, rfl⟩
      obtain ⟨pt, hpt⟩ : ∃ pt, pt = sh * pw (rootI p nn) (pl % (nn : Int)).toNat := ⟨_, rfl⟩
      obtain ⟨Y, hY⟩ : ∃ Y, Y = ev (els p l) pt := ⟨_, rfl⟩
      obtain ⟨bb, hbb⟩ : ∃ bb, (fv X == fv Y) = bb := ⟨_, rfl⟩
      have hbd : bb = decide (X = Y) := by
        rw [← hbb]
        by_cases h : X = Y
        · rw [h]; simp
        · rw [decide_eq_false h, beq_eq_false_iff_ne]
          exact fun e => h (by have h2 := congrArg (el p) e; rw [el_fv, el_fv] at h2; exact h2)
      have hPT := fun W hd => point_any p S Dd b nn sh pl hpl W hd
      rw [← hpt] at hPT
      have HPT := Lib.hid hPT
      have hEV := fun W F hs => eval_nP p S b A m cA l HLL.out.1 HLL.out.2 (by omega) (fv pt) (i64_fv _ hp2) W F hs
      rw [el_fv, ← hY] at hEV
      have HEV := Lib.hid hEV
      have HFN := Lib.hid (And.intro hX (And.intro hpt (And.intro hY hbd)))
      have HDW := Lib.hid (fun W (h : Below w1.heap.size w1 W) => (HD.out.below (hb.trans (h.mono hb.size)) HD.out.fld.le))
      have HLW := Lib.hid (fun W (h : Below w1.heap.size w1 W) => HSL.out.below (hb.trans (h.mono hb.size)))
      rw [← hX]
      clear hX hpt hY hbd hPT hEV hb
      go_upto_region 7 with (fail)
      refine wp_region_held_drew (S := fun W => W.cell? ⟨x, 0, none⟩ = some (.pointer (some ⟨b, 0, none⟩)) ∧ W.cell? ⟨x, 1, none⟩ = some (.pointer (some ⟨Dd, 0, none⟩))) (by kernel_rfl) (KX.out _ h0).2.1 (fun hHeld => ?_)
      refine tkH 0 ?_
      refine tkH 1 ?_
      refine tkH 2 ?_
      refine tkH 3 ?_
      refine tkH 4 ?_
      refine tkH 5 ?_
      refine tkH 6 ?_
      refine tkH 7 ?_
      refine tkH 8 ?_
      refine tkH 9 ?_
      refine tkH 10 ?_
      refine stH 11 (fun K hK => ?_)
      go_simp
      refine (HPT.out w1.drew (HDW.out _ h0)).mono ?_
      rintro _ w5 ⟨rfl, k5, h5⟩
      have e5 : Below w1.heap.size w1 w5 := by rw [h5]; exact below_drewN h0 _
      clear h5
      refine hK.out _ _ (KX.out _ e5).2.1 (fun hHeld => ?_)
      clear hK K
      (try simp only [Act.put, List.setIfInBounds_toArray, List.set_cons_zero, List.set_cons_succ])
      refine stH 12 (fun K hK => ?_)
      go_simp
      refine (HEV.out w5 (HDW.out _ e5).fld (HLW.out _ e5)).mono ?_
      rintro _ w6 ⟨rfl, hb6⟩
      have e6 := e5.trans (hb6.mono e5.size)
      refine hK.out _ _ (KX.out _ e6).2.1 (fun hHeld => ?_)
      clear hK K
      (try simp only [Act.put, List.setIfInBounds_toArray, List.set_cons_zero, List.set_cons_succ])
      refine tkH 13 ?_
      refine tkH 14 ?_
      refine wpAnyH_done (by kernel_rfl) ?_ _
      have HE := Lib.hid (KX.out _ e6).2.2
      clear hHeld e5 e6 h0 KX hb6
      go_wp2
      go_ret
      obtain ⟨f1, f2, f3, f4⟩ := HFN.out
      refine ⟨?_, HE.out⟩
      rw [← f1, ← f2, ← f3, ← f4]
      rfl
end Go.Proofs.YteceghbjjnknbaaGreat

namespace Go.Proofs.YteceghbjjnknbaaGreat
open Go.RowKit Zp
section
variable {p : Nat} [NeZero p] (rows : List (List Int)) (wt : Nat → Fin p) (M : Nat)
def wgE (j i : Nat) : Fin p := wt i * el p ((rows.getD i []).getD j 0)
def wgL (r k : Nat) : List (Fin p) := tab M fun j => if j < k then sumT (r + 1) (wgE rows wt j) else sumT r (wgE rows wt j)
theorem wgL_len (r k : Nat) : (wgL rows wt M r k).length = M := by rw [wgL, tab_length]
theorem wgL_zero : wgL rows wt M 0 0 = tab M fun _ => (0 : Fin p) := by
  unfold wgL
  congr 1
theorem wgL_next (r : Nat) : wgL rows wt M r M = wgL rows wt M (r + 1) 0 := by
  refine ext_co (by rw [wgL_len, wgL_len]) (fun j hj => ?_)
  rw [wgL_len] at hj
  rw [wgL, wgL, co_tab, co_tab, if_pos hj, if_pos hj, if_pos hj, if_neg (by omega)]
theorem wgL_at (r k : Nat) (hk : k < M) : co (wgL rows wt M r k) k = sumT r (wgE rows wt k) := by
  rw [wgL, co_tab, if_pos hk, if_neg (by omega)]
theorem wgL_set (r k : Nat) (hk : k < M) : (wgL rows wt M r k).set k (co (wgL rows wt M r k) k + wgE rows wt k r) = wgL rows wt M r (k + 1) := by
  refine ext_co (by rw [List.length_set, wgL_len, wgL_len]) (fun j hj => ?_)
  rw [List.length_set, wgL_len] at hj
  have h1 : co ((wgL rows wt M r k).set k (co (wgL rows wt M r k) k + wgE rows wt k r)) j = if j = k then co (wgL rows wt M r k) k + wgE rows wt k r else co (wgL rows wt M r k) j := by
    unfold co
    rw [List.getElem?_set]
    by_cases e : k = j
    · subst e
      rw [if_pos rfl, if_pos rfl, if_pos (by rw [wgL_len]; exact hj)]
      rfl
    · rw [if_neg e, if_neg (fun h => e h.symm)]
  rw [h1]
  by_cases e : j = k
  · subst e
    rw [if_pos rfl, wgL_at rows wt M r j hk, wgL, co_tab, if_pos hj, if_pos (by omega), sumT_succ]
  · rw [if_neg e, wgL, wgL, co_tab, co_tab, if_pos hj, if_pos hj]
    by_cases h : j < k
    · rw [if_pos h, if_pos (by omega)]
    · rw [if_neg h, if_neg (by omega)]
end
def visA (l : List Int) : Array Value := (l.map vi).toArray
theorem visA_get (l : List Int) (k : Nat) (h : k < l.length) : (visA l)[k]? = some (vi l[k]) := by
  unfold visA
  rw [List.getElem?_toArray, List.getElem?_map, List.getElem?_eq_getElem h]; rfl
theorem visA_set (l : List Int) (k : Nat) (x : Int) : (visA l).setIfInBounds k (vi x) = visA (l.set k x) := by
  unfold visA
  rw [List.setIfInBounds_toArray, List.map_set]
theorem visA_zeros (n : Nat) : zeros n = visA (List.replicate n 0) := by
  have h := zeros_toList n
  unfold visA
  rw [← h]
theorem visA_own {w : World} {g base n : Nat} {l : List Int} (h : Blk w g 3 (visA l)) (hb : base ≤ g) (hl : l.length = n) (hm : n ≤ maxLen) : Own w base (.slice (some ⟨g, 0, none⟩) n n) l := by
  subst hl
  refine ⟨by simp, .inr ⟨g, l.length, visA l, rfl, hb, h, Nat.le_refl _, hm, by simp [visA], ?_⟩⟩
  simp only [visA, Nat.mul_one]
  exact List.take_of_length_le (by simp)
end Go.Proofs.YteceghbjjnknbaaGreat

namespace Go.Proofs.YteceghbjjnknbaaGreat
open Go.RowKit Zp
structure ColsAt (w : World) (base g F : Nat) (us : List Value) (ls : List (List Int)) : Prop where
  blk : Blk w g 25 us.toArray
  rows : RowsOwn w base us ls
  sep : ∀ i j (hi : i < us.length) (hj : j < us.length), i ≠ j → us[i].ownBlock = none ∨ us[i].ownBlock ≠ us[j].ownBlock
  far : ∀ i (hi : i < us.length), us[i].ownBlock ≠ some F
def nilC (n : Nat) : Array Value := madeCells #[.slice none 0 0] n
theorem nilC_eq (n : Nat) : nilC n = (List.replicate n (Value.slice none 0 0)).toArray := by
  apply Array.ext
  · simp [nilC, size_madeCells]
  · intro i h1 h2
    simp [nilC, madeCells, Nat.mod_one]
theorem make_nilC (c : Nat) (hc : c * 24 ≤ 281474976710656) (w : World) :
    (Instr.makeSlice 36 (vi c) (vi c)).run Tryz.prog w = .ok (.slice (some ⟨w.heap.size, 0, none⟩) c c) (w.alloc (.cells (nilC c) 25)) := by
  obtain ⟨i0, hi, hz0, hz1, hz2⟩ := info_parts info_ints
  have h := run_make (P := Tryz.prog) w 36 25 i0 (.slice none 0 0) Tryz.underlying36 hi hz0 .i64 .i64 (c : Nat) c (by omega) (by omega) (by rw [hz2]; omega) (by omega)
  rw [hz1, Int.toNat_natCast, Nat.mul_one] at h
  exact h
theorem ColsAt.made (w : World) (base n F : Nat) (hb : base ≤ w.heap.size) : ColsAt (w.alloc (.cells (nilC n) 25)) base w.heap.size F (List.replicate n (.slice none 0 0)) (List.replicate n []) := by
  refine ⟨?_, ⟨by simp, fun k h1 h2 => ?_⟩, fun i j hi hj _ => .inl ?_, fun i hi => ?_⟩
  · rw [← nilC_eq]; exact Blk.new _ _ _
  · simp only [List.getElem_replicate]
    exact World.ownsRow_nil _ _ _ _
  · simp only [List.getElem_replicate]; rfl
  · simp only [List.getElem_replicate]; exact fun h => by cases h
theorem own_store {w : World} {base g i : Nat} {v u : Value} {xs : List Int} {cs : Array Value} (h : Own w base v xs) (hB : Blk w g 25 cs) : Own (w.setCell ⟨g, i, none⟩ u) base v xs :=
  ownsRow_keep h fun k hk => by
    obtain ⟨ds, hd⟩ := row_blk h hk
    have hne : k ≠ g := hd.ne_ hB (by decide)
    exact Below.heap_setCell w ⟨g, i, none⟩ u k hne
theorem ColsAt.grow {w w' : World} {base g F j : Nat} {us : List Value} {ls : List (List Int)} {v' : Value} {x : Int} (h : ColsAt w base g F us ls) (hj : j < us.length) (hj' : j < ls.length) (hF : F < w.heap.size)
    (hg : Grew w w' base us[j] v' (ls[j] ++ [x])) : ColsAt (w'.setCell ⟨g, j, none⟩ v') base g F (us.set j v') (ls.set j (ls[j] ++ [x])) := by
  have hoj := h.rows.2 j hj hj'
  have hB' : Blk w' g 25 us.toArray := row_far hoj hg.grown h.blk (by decide)
  refine ⟨?_, ⟨by simp [h.rows.1], fun k h1 h2 => ?_⟩, fun a b ha hb hab => ?_, fun i hi => ?_⟩
  · have := hB'.set_ j v'
    rwa [List.setIfInBounds_toArray] at this
  · rw [List.length_set] at h1 h2
    by_cases e : k = j
    · subst e
      rw [List.getElem_set_self, List.getElem_set_self]
      exact own_store hg.own hB'
    · rw [List.getElem_set_ne (Ne.symm e), List.getElem_set_ne (Ne.symm e)]
      have hok := h.rows.2 k h1 h2
      refine own_store (ownsRow_keep hok fun gk hgk => ?_) hB'
      refine hg.grown.block gk (hok.lt gk hgk).2 ?_
      rcases h.sep k j h1 hj e with h0 | h0
      · rw [h0] at hgk; cases hgk
      · rw [hgk] at h0; exact h0
  · have ha' := ha
    have hb' := hb
    rw [List.length_set] at ha' hb'
    have key : ∀ c (hc : c < us.length), c ≠ j → v'.ownBlock = none ∨ us[c].ownBlock = none ∨ v'.ownBlock ≠ us[c].ownBlock := fun c hc hcj => by
      rcases hg.at_ with e | ⟨k, e, hk⟩
      · rw [e]
        rcases h.sep j c hj hc (Ne.symm hcj) with h0 | h0
        · exact .inl h0
        · exact .inr (.inr h0)
      · rw [e]
        rcases hq : us[c].ownBlock with _ | q
        · exact .inr (.inl rfl)
        · have := ((h.rows.2 c hc (by rw [← h.rows.1]; exact hc)).lt q hq).2
          exact .inr (.inr (fun e2 => by injection e2 with e2; omega))
    by_cases e : a = j
    · subst e
      rw [List.getElem_set_self, List.getElem_set_ne hab]
      rcases key b hb' (Ne.symm hab) with h0 | h0 | h0
      · exact .inl h0
      · by_cases h1 : v'.ownBlock = none
        · exact .inl h1
        · exact .inr (fun e => h1 (e.trans h0))
      · exact .inr h0
    · rw [List.getElem_set_ne (Ne.symm e)]
      by_cases e2 : b = j
      · subst e2
        rw [List.getElem_set_self]
        rcases key a ha' e with h0 | h0 | h0
        · by_cases h1 : us[a].ownBlock = none
          · exact .inl h1
          · exact .inr (fun e => h1 (e.trans h0))
        · exact .inl h0
        · exact .inr (Ne.symm h0)
      · rw [List.getElem_set_ne (Ne.symm e2)]
        exact h.sep a b ha' hb' hab
  · have hi' := hi
    rw [List.length_set] at hi'
    by_cases e : i = j
    · subst e
      rw [List.getElem_set_self]
      rcases hg.at_ with e | ⟨k, e, hk⟩
      · rw [e]; exact h.far _ hi'
      · rw [e]; exact fun e2 => by injection e2 with e2; omega
    · rw [List.getElem_set_ne (Ne.symm e)]
      exact h.far i hi'
theorem ColsAt.below {w w' : World} {base g F : Nat} {us : List Value} {ls : List (List Int)} (h : ColsAt w base g F us ls) (hb : Below w.heap.size w w') : ColsAt w' base g F us ls :=
  ⟨h.blk.below hb h.blk.lt, h.rows.below hb, h.sep, h.far⟩
theorem ColsAt.clear_ {w w' : World} {base g F F' : Nat} {us : List Value} {ls : List (List Int)} (h : ColsAt w base g F us ls) (hb : Below w.heap.size w w') (hF : w.heap.size ≤ F') : ColsAt w' base g F' us ls :=
  ⟨h.blk.below hb h.blk.lt, h.rows.below hb, h.sep, fun i hi e => by
    have := ((h.rows.2 i hi (by rw [← h.rows.1]; exact hi)).lt F' e).2
    omega⟩
theorem ColsAt.safe {w w' : World} {base g F : Nat} {us : List Value} {ls : List (List Int)} (h : ColsAt w base g F us ls) (hs : Safe w w') : ColsAt w' base g F us ls :=
  ⟨(hs.2 _ (.inr (.inl rfl)) g _ h.blk).trans h.blk, h.rows.safe hs, h.sep, h.far⟩
theorem ColsAt.cell {w : World} {base g F j : Nat} {us : List Value} {ls : List (List Int)} (h : ColsAt w base g F us ls) (hj : j < us.length) : w.cell? ⟨g, j, none⟩ = some us[j] := by
  rw [h.blk.cell]
  simp [List.getElem?_eq_getElem hj]
theorem ColsAt.tb {w : World} {base g F : Nat} {us : List Value} {ls : List (List Int)} (h : ColsAt w base g F us ls) (hi : ∀ l ∈ ls, ∀ x ∈ l, I64 x) : TB w (some ⟨g, 0, none⟩) ls := fun k hk => by
  have hku : k < us.length := by rw [h.rows.1]; exact hk
  have ho := h.rows.2 k hku hk
  obtain ⟨A, n, c, e1, e2, e3, e4, e5⟩ := ho.shapeN
  have hm : maxLen < 9223372036854775808 := by simp [maxLen]
  have e := addG g k
  exact ⟨⟨g, 0, none⟩, A, n, c, rfl, by rw [block_of_add]; exact h.blk.lt, by rw [e, h.cell hku, e1], e2, by omega, e5, hi _ (List.getElem_mem hk)⟩
theorem ColsAt.sl {w w' : World} {base g F j : Nat} {us : List Value} {ls : List (List Int)} {v' : Value} {x : Int} {A : Option Addr} {xs : List Int} (h : ColsAt w base g F us ls) (hj : j < us.length) (hj' : j < ls.length)
    (hg : Grew w w' base us[j] v' (ls[j] ++ [x])) (hs : SL w A xs) (hA : ∀ ad, A = some ad → ad.block = F) (hFg : F ≠ g) : SL (w'.setCell ⟨g, j, none⟩ v') A xs := by
  have h1 : SL w' A xs := by
    rcases hq : us[j].ownBlock with _ | q
    · have hgr := hg.grown
      rw [hq] at hgr
      exact hs.below ⟨hgr.os, hgr.tape, hgr.output, hgr.size, fun i hi => hgr.block i hi (by intro e; cases e)⟩
    · have hgr := hg.grown
      rw [hq] at hgr
      exact hs.farO hgr fun ad had _ e => h.far j hj (by rw [hq, ← e, hA ad had])
  exact h1.farO (blk_grown (g := g)) fun ad had _ e => hFg (by rw [← hA ad had, e])
theorem ColsAt.low {w0 w w' : World} {base g F j B : Nat} {us : List Value} {ls : List (List Int)} {v' : Value} {x : Int} (h : ColsAt w base g F us ls) (hj : j < us.length) (hj' : j < ls.length)
    (hg : Grew w w' base us[j] v' (ls[j] ++ [x])) (hb : Below B w0 w) (h1 : B ≤ base) (h2 : B ≤ w.heap.size) (h3 : B ≤ g) : Below B w0 (w'.setCell ⟨g, j, none⟩ v') :=
  (hg.below hb (h.rows.2 j hj hj') h1 h2).setCell (p := ⟨g, j, none⟩) h3 v'
def colT (C : Nat → List Int) (n r j : Nat) : List (List Int) := (List.range n).map fun k => (C k).take (if k < j then r + 1 else r)
section
variable (C : Nat → List Int) (n : Nat)
theorem colT_len (r j : Nat) : (colT C n r j).length = n := by simp [colT]
theorem colT_at {r j k : Nat} (h : k < n) : (colT C n r j)[k]'(by rw [colT_len]; exact h) = (C k).take (if k < j then r + 1 else r) := by simp [colT]
theorem colT_zero : colT C n 0 0 = List.replicate n [] := by
  refine List.ext_getElem (by simp [colT]) fun k h1 h2 => ?_
  simp [colT]
theorem colT_next (r : Nat) : colT C n r n = colT C n (r + 1) 0 := by
  refine List.ext_getElem (by simp [colT]) fun k h1 h2 => ?_
  have hk : k < n := by simpa [colT] using h1
  simp [colT, hk]
theorem colT_set {r j : Nat} (hj : j < n) (hr : r < (C j).length) : (colT C n r j).set j ((colT C n r j)[j]'(by rw [colT_len]; exact hj) ++ [(C j)[r]]) = colT C n r (j + 1) := by
  have e0 : (colT C n r j)[j]'(by rw [colT_len]; exact hj) = (C j).take r := by rw [colT_at C n hj, if_neg (Nat.lt_irrefl _)]
  rw [e0]
  refine List.ext_getElem (by simp [colT]) fun k h1 h2 => ?_
  have hk : k < n := by simpa [colT] using h2
  rw [colT_at C n hk]
  by_cases e : k = j
  · subst e
    rw [List.getElem_set_self, if_pos (Nat.lt_succ_self _), List.take_append_getElem hr]
  · rw [List.getElem_set_ne (Ne.symm e), colT_at C n hk]
    by_cases h : k < j
    · rw [if_pos h, if_pos (by omega)]
    · rw [if_neg h, if_neg (by omega)]
theorem colT_done {R : Nat} (h : ∀ k, k < n → (C k).length = R) : colT C n R 0 = (List.range n).map C := by
  refine List.ext_getElem (by simp [colT]) fun k h1 h2 => ?_
  have hk : k < n := by simpa [colT] using h1
  rw [colT_at C n hk, List.getElem_map, List.getElem_range]
  exact List.take_of_length_le (by rw [h k hk]; simp)
end
end Go.Proofs.YteceghbjjnknbaaGreat

namespace Go.Proofs.YteceghbjjnknbaaGreat
open Go.RowKit Zp
section
variable {p : Nat} (T : Nat → Fin p) (b c : Nat)
def rowsP : List (List Int) := (List.range c).map fun i => fvs (prow p T b i)
theorem rowsP_len : (rowsP T b c).length = c := by simp [rowsP]
theorem prow_len (i : Nat) : (prow p T b i).length = 2 ^ b := by rw [prow, tab_length]
theorem rowsP_at {i : Nat} (h : i < c) : (rowsP T b c)[i]'(by rw [rowsP_len]; exact h) = fvs (prow p T b i) := by simp [rowsP]
theorem rowsP_width : ∀ l ∈ rowsP T b c, l.length = 2 ^ b := fun l hl => by
  obtain ⟨i, _, rfl⟩ := List.mem_map.1 hl
  simp only [fvs, List.length_map]
  exact prow_len T b i
theorem rowsP_i64 (hp : p ≤ 2147483647) : ∀ l ∈ rowsP T b c, ∀ x ∈ l, I64 x := fun l hl => by
  obtain ⟨i, _, rfl⟩ := List.mem_map.1 hl
  exact i64_fvs _ hp
section
variable [NeZero p]
theorem wg_mix (wt : Nat → Fin p) : wgL (rowsP T b c) wt (2 ^ b) c 0 = tab (2 ^ b) (mixE T c (2 ^ b) wt) := by
  refine ext_co (by rw [wgL_len, tab_length]) fun j hj => ?_
  rw [wgL_len] at hj
  rw [wgL, co_tab, co_tab, if_pos hj, if_pos hj, if_neg (by omega), mixE]
  refine sumT_congr fun i hi => ?_
  unfold wgE
  have e : (rowsP T b c).getD i [] = fvs (prow p T b i) := by
    rw [List.getD_eq_getElem?_getD, List.getElem?_eq_getElem (by rw [rowsP_len]; exact hi), rowsP_at T b c hi]; rfl
  rw [e, ← co_els, els_fvs, prow, co_tab, if_pos hj]
theorem prow_el (l : List Int) {i j : Nat} (hj : j < 2 ^ b) (hl : i * 2 ^ b + j < l.length) : (fvs (prow p (fun t => co (els p l) t) b i))[j]'(by simp only [fvs, List.length_map]; rw [prow_len]; exact hj) = fv (el p l[i * 2 ^ b + j]) := by
  have h : j < (prow p (fun t => co (els p l) t) b i).length := by rw [prow_len]; exact hj
  simp only [fvs, List.getElem_map]
  rw [← co_of_lt h, prow, co_tab, if_pos hj, co_of_lt (by simpa [els] using hl)]
  simp [els]
theorem pcol_at (r : Nat) (a n : Nat) (s q : Fin p) (j : Nat) (hr : r < 2 ^ a) : (pcol p T a b s q j)[r]'(by rw [pcol_length]; exact hr) = fv (ev (prow p T b r) (s * pw q j)) := by simp [pcol]
end
end
end Go.Proofs.YteceghbjjnknbaaGreat
