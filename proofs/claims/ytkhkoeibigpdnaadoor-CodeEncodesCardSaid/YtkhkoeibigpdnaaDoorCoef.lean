/- Walks: powers, Coefficients, code.Is. -/
import Derived.Test.YtkhkoeibigpdnaaDoorCode
import Derived.Test.YtkhkoeibigpdnaaDoorAppA
import Derived.Test.YtkhkoeibigpdnaaDoorIp
import Derived.Deep.RegionHeld3
import Derived.Deep.DeepCutAuto
set_option linter.unusedVariables false
namespace Go.Proofs.YtkhkoeibigpdnaaDoor
open Go.RowKit Zp

theorem mul_one_ {p : Nat} [NeZero p] (a : Fin p) : a * 1 = a := by grind
theorem mul_assoc_ {p : Nat} [NeZero p] (a b c : Fin p) : a * b * c = a * (b * c) := by grind

/-- x, x y, x y^2 .. -/
def powL {p : Nat} [NeZero p] (x y : Fin p) (n : Nat) : List (Fin p) := tab n (fun i => x * pw y i)
theorem powL_length {p : Nat} [NeZero p] (x y : Fin p) (n : Nat) : (powL x y n).length = n := tab_length _ _
def PowRel {p : Nat} [NeZero p] (x y : Fin p) (n : Nat) (w : World) (v c : Value) (wr : World) : Prop := ∃ k g : Nat, k ≤ n ∧ c = vi (fv (x * pw y k)) ∧ v = .slice (some ⟨g, 0, none⟩) k n ∧ Own wr w.heap.size v (fvs (powL x y k)) ∧ Below w.heap.size w wr
def lenOf : Value → Nat
  | .slice _ n _ => n
  | _ => 0

set_option maxRecDepth 100000 in
set_option maxHeartbeats 1000000 in
theorem powers_any (p S D b : Nat) [NeZero p] (n : Nat) (s : Fin p) (x y : Fin p) (w : World) (hD : Dom w S D b p n s) :
    Calls Tryd.prog 68 #[.pointer (some ⟨D, 0, none⟩), vi (fv x), vi (fv y)] w fun e w' => Made (fvs (powL x y n)) w e w' := by
  have hp2 := hD.fld.max
  have hn1 := hD.size.le
  have hd1 := hD.c1
  have hDle := hD.le
  have hmk := make_ints0 n (by omega)
  go_enter Tryd.func68, Tryd.ntmps68
  go_wp2
  go_loopw [7, 8] (fun v c wr => PowRel x y n w v c wr) (fun v _ _ => n - lenOf v)
  case atStart => exact ⟨0, w.heap.size, Nat.zero_le _, by rw [pw_zero, mul_one_], rfl, own_made0 w _ n (Nat.le_refl _) (by omega), (Below.refl _ _).alloc (Nat.le_refl _) _⟩
  case round =>
    obtain ⟨k, g, hk, rfl, rfl, hown, hb⟩ := hrel
    have hDr := hD.below hb hDle
    have hd1 := hDr.c1
    have hd0 := hDr.c0
    have hcb := hDr.fld.c0
    by_cases hkn : k < n
    · have hlk : (fvs (powL x y k)).length = k := by simp [powL_length]
      have hts : powL x y (k + 1) = powL x y k ++ [x * pw y k] := tab_succ _ _
      have hX1 : x * pw y k * y = x * pw y (k + 1) := by rw [pw_succ]; exact mul_assoc_ _ _ _
      obtain ⟨X, hX⟩ : ∃ X, X = x * pw y k := ⟨_, rfl⟩
      rw [← hX] at hts hX1 ⊢
      obtain ⟨X2, hX2⟩ : ∃ X2, X2 = x * pw y (k + 1) := ⟨_, rfl⟩
      rw [← hX2] at hX1
      have hmul := fun W hc => mul_any p hp2 b (fv X) (fv y) (i64_fv _ hp2) (i64_fv _ hp2) W hc
      rw [el_fv, el_fv, hX1] at hmul
      have HMUL := Lib.hid hmul
      have HTS := Lib.hid hts
      have HLK := Lib.hid hlk
      have HX2 := Lib.hid hX2
      clear hmul hts hlk hX hX1 hX2
      have hgl := (hown.lt g rfl).1
      have hDne : some D ≠ some g := by intro e; injection e with e; have := hD.lt; omega
      have hbne : some b ≠ some g := by intro e; injection e with e; have := hD.fld.lt; omega
      go_wp2_with (at_builtin; refine wpList_app1_fits wr (fv X) rfl _ _ rfl w.heap.size g k n _ rfl rfl hown HLK.out.symm hkn ?_; intro w1 hown1 hg; have hd0' := hg.cell hd0 hDne; have hcb' := hg.cell hcb hbne)
      refine (HMUL.out _ hcb').mono ?_
      rintro e w' ⟨rfl, k5, rfl⟩
      go_wp2
      go_roundw
      case rel => exact ⟨k + 1, g, by omega, by rw [HX2.out], rfl, by rw [HTS.out, fvs, List.map_append]; exact hown1, below_drewN (hb.grown hg hb.size (fun j hj => by injection hj with hj; subst hj; exact hgl)) k5⟩
      case measure => simp [lenOf]; omega
    · obtain rfl : k = n := by omega
      go_wp2
      go_ret
      exact ⟨_, rfl, hown, hb⟩
theorem coefs_bad (D n : Nat) (A : Option Addr) (m cap : Nat) (h : m ≠ n) (w : World) (hc : w.cell? ⟨D, 1, none⟩ = some (vi n)) :
    Calls Tryd.prog 32 #[.pointer (some ⟨D, 0, none⟩), .slice A m cap] w fun e w' => e = .returned (.tuple #[.slice none 0 0, .iface 107 (.int .i64 2)]) ∧ w = w' := by
  have t1 : ((m : Int) != (n : Int)) = true := by rw [bne_iff_ne]; omega
  clear h
  go_enter Tryd.func32, Tryd.ntmps32
  go_wp2
  go_ret2
  exact ⟨rfl, rfl⟩

/-- a word of the call's own, and no error -/
def MadeC (xs : List Int) (w : World) (e : Ending) (w' : World) : Prop := ∃ v, e = .returned (.tuple #[v, .nilIface]) ∧ Own w' w.heap.size v xs ∧ Below w.heap.size w w'
/-- behind spread -/
def Cut3 (p n : Nat) [NeZero p] (r : Fin p) (l : List (Fin p)) (w : World) (v : Value) (wx : World) : Prop := ∃ ys, Own wx w.heap.size v ys ∧ (∀ y ∈ ys, I64 y) ∧ els p ys = dft r n l ∧ Below w.heap.size w wx
/-- behind powers -/
def Cut4 (p n : Nat) [NeZero p] (x y : Fin p) (w2 : World) (v ln c : Value) (wx : World) : Prop := ∃ g3 cc, v = .slice (some ⟨g3, 0, none⟩) n cc ∧ ln = vi n ∧ c = .int .i64 0 ∧ Own wx w2.heap.size (.slice (some ⟨g3, 0, none⟩) n cc) (fvs (powL x y n)) ∧ w2.heap.size ≤ g3 ∧ Below w2.heap.size w2 wx

def CoefRel (p n : Nat) [NeZero p] (r x y : Fin p) (l : List (Fin p)) (w : World) (g c : Nat) (i : Value) (wr : World) : Prop := ∃ (k : Nat) (ys : List Int), k ≤ n ∧ i = vi k ∧ ys.length = n ∧ Own wr w.heap.size (.slice (some ⟨g, 0, none⟩) n c) ys ∧ (∀ y ∈ ys, I64 y) ∧
  (∀ j, j < n → co (els p ys) j = if j < k then co (dft r n l) j * (x * pw y j) else co (dft r n l) j) ∧ Below w.heap.size w wr

set_option maxRecDepth 100000 in
set_option maxHeartbeats 1000000 in
theorem coefs_any (p S D b : Nat) [NeZero p] (n : Nat) (s : Fin p) (A : Option Addr) (cap : Nat) (xs : List Int) (hml : xs.length = n) (hxs : ∀ x ∈ xs, I64 x) (w : World) (hD : Dom w S D b p n s) (hs : SL w A xs) :
    Calls Tryd.prog 32 #[.pointer (some ⟨D, 0, none⟩), .slice A n cap] w fun e w' => MadeC (fvs (trimL (coefL s (rootI p n) n (els p xs)))) w e w' := by
  have hp1 := hD.fld.two
  have hp2 := hD.fld.max
  have hpr := hD.fld.prime
  have hn0 := hD.size.pos
  have hn1 := hD.size.le
  have hDle := hD.le
  have hd0 := hD.c0
  have hd1 := hD.c1
  have hd3 := hD.c3
  have hcb := hD.fld.c0
  have hDl : D < w.heap.size := Nat.lt_of_lt_of_le hD.lt hD.le
  have hbl : b < w.heap.size := Nat.lt_of_lt_of_le hD.fld.lt hD.le
  have t1 : ((n : Int) != (n : Int)) = false := by simp
  have hord := ord_inv hpr (rootI_ord hpr hn0 hD.size.2) hn0
  have hcond := root_cond hpr hD.size hord
  obtain ⟨R, hR⟩ : ∃ R, R = rootI p n := ⟨_, rfl⟩
  rw [← hR] at hd3 hcond ⊢
  have hclone := fun k => clone_any A n cap xs hml (by omega) (w.drewN k) (hs.drewN k)
  have HCLONE := Lib.hid hclone
  have hsp : SpreadSpec p S D b n s n := by
    obtain ⟨⟨kk, hkk, hnk⟩, _⟩ := hD.size
    have h := spread_any p S D b n s kk hkk
    rwa [← hnk] at h
  have HSP := Lib.hid hsp
  have HML := Lib.hid hml
  have HCOND := Lib.hid hcond
  have HR := Lib.hid hR
  clear hclone hord hcond hsp hml hR
  go_enter Tryd.func32, Tryd.ntmps32
  go_upto_region 3 with (fail)
  go_cut [6] (fun v wx => Cut3 p n (Zp.inv R) (els p xs) w v wx)
  case first =>
    go_region_held3 (fun w' => w'.cell? ⟨D, 0, none⟩ = some (.pointer (some ⟨b, 0, none⟩)) ∧ w'.cell? ⟨D, 3, none⟩ = some (vi (fv R)) ∧ w'.cell? ⟨b, 0, none⟩ = some (vi p)) (first | exact ⟨hd0, hd3, hcb⟩ | exact ⟨(hb1.cell (p := ⟨D, 0, none⟩) hDl).trans hd0, (hb1.cell (p := ⟨D, 3, none⟩) hDl).trans hd3, (hb1.cell (p := ⟨b, 0, none⟩) hbl).trans hcb⟩ | exact ⟨(hbel2.cell (p := ⟨D, 0, none⟩) hDl).trans hd0, (hbel2.cell (p := ⟨D, 3, none⟩) hDl).trans hd3, (hbel2.cell (p := ⟨b, 0, none⟩) hbl).trans hcb⟩) ((first | (go_at_call 77; refine (HCLONE.out _).mono ?_; rintro e w1 ⟨v1, rfl, hown1, hb1⟩) | (go_at_call 78; refine (inv_any p hp1 hp2 b _ (i64_fv _ hp2) _ (by first | exact hcb | exact (hb1.cell (p := ⟨b, 0, none⟩) hbl).trans hcb)).mono ?_; rintro e w' ⟨rfl, rfl⟩) | (go_at_call 75; refine (HSP.out _ w.heap.size _ xs _ HML.out hxs (i64_fv _ hp2) (by rw [el_fv, el_fv]; exact HCOND.out) ((hD.drewN _).below hb1 hDle) hown1 hb1.size).mono ?_; rintro e w2 ⟨v2, ys, rfl, hown2, hys, hysd, _, _, hb2⟩; have hbel2 : Below w.heap.size w w2 := ((below_drewN (Below.refl _ w) _).trans hb1).trans (hb2.mono hb1.size))))
    all_goals go_wp2_with fail
    all_goals go_meet
    all_goals (rw [el_fv, el_fv] at hysd; exact ⟨ys, hown2, hys, hysd, hbel2⟩)
  case rest =>
    obtain ⟨ys, hown2, hys, hysd, hb2⟩ := hcut
    have hysl : ys.length = n := by have := congrArg List.length hysd; rw [dft_length] at this; simpa using this
    obtain ⟨g, c, hv, hg1, hg2⟩ := hown2.block (by omega)
    rw [hysl] at hv
    subst hv
    obtain ⟨w2, hw2⟩ : ∃ W, W = wc := ⟨_, rfl⟩
    subst hw2
    have hD2 := hD.below hb2 hDle
    have hd0 := hD2.c0
    have hd1 := hD2.c1
    have hd2 := hD2.c2
    have hcb2 := hD2.fld.c0
    have hnI : I64 (n : Int) := ⟨by omega, by omega⟩
    have hDl2 : D < w2.heap.size := Nat.lt_of_lt_of_le hDl hb2.size
    have hbl2 : b < w2.heap.size := Nat.lt_of_lt_of_le hbl hb2.size
    have HYS := Lib.hid hysd
    have HYL := Lib.hid hysl
    clear hysd hysl hd3 hcb
    have hpw := fun k => powers_any p S D b n s (Zp.inv (el p (n : Int))) (Zp.inv (el p (fv s))) (w2.drewN k) (hD2.drewN k)
    have HPW := Lib.hid hpw
    clear hpw
    go_upto_region 4 with (fail)
    go_cut [49, 50, 51] (fun v ln c wx => Cut4 p n (Zp.inv (el p (n : Int))) (Zp.inv (el p (fv s))) w2 v ln c wx)
    case first =>
      go_region_held3 (fun w' => w'.cell? ⟨D, 0, none⟩ = some (.pointer (some ⟨b, 0, none⟩)) ∧ w'.cell? ⟨D, 1, none⟩ = some (vi n) ∧ w'.cell? ⟨D, 2, none⟩ = some (vi (fv s))) (first | exact ⟨hd0, hd1, hd2⟩ | exact ⟨(hb3.cell (p := ⟨D, 0, none⟩) hDl2).trans hd0, (hb3.cell (p := ⟨D, 1, none⟩) hDl2).trans hd1, (hb3.cell (p := ⟨D, 2, none⟩) hDl2).trans hd2⟩) ((first | (go_at_call 78; refine (inv_any p hp1 hp2 b _ (by first | exact hnI | exact i64_fv _ hp2) _ (by exact hcb2)).mono ?_; rintro e w' ⟨rfl, rfl⟩) | (go_at_call 68; refine (HPW.out _).mono ?_; rintro e w3 ⟨v3, rfl, hown3, hb3⟩; obtain ⟨g3, c3, hv3, hg3, _⟩ := hown3.block (by simp [powL_length]; omega); rw [List.length_map, powL_length] at hv3; subst hv3)))
      all_goals go_wp2_with fail
      all_goals go_meet
      all_goals exact ⟨g3, c3, rfl, rfl, rfl, hown3, hg3, (below_drewN (Below.refl _ w2) _).trans hb3⟩
    case rest =>
      obtain ⟨g3, c3, rfl, rfl, rfl, hown3, hg3, hb3⟩ := hcut
      have hlp : (fvs (powL (Zp.inv (el p (n : Int))) (Zp.inv (el p (fv s))) n)).length = n := by rw [List.length_map, powL_length]
      have HLP := Lib.hid hlp
      clear hlp
      have hoa := hown2.below hb3
      have hbw := hb2.trans (hb3.mono hb2.size)
      go_wp2_with fail
      go_loopw [51] (fun i wr => CoefRel p n (Zp.inv R) (Zp.inv (el p (n : Int))) (Zp.inv (el p (fv s))) (els p xs) w g c i wr ∧ Own wr w2.heap.size (.slice (some ⟨g3, 0, none⟩) n c3) (fvs (powL (Zp.inv (el p (n : Int))) (Zp.inv (el p (fv s))) n))) (fun i _ => n - (intOf i).toNat)
      case atStart => exact ⟨⟨0, ys, Nat.zero_le _, rfl, HYL.out, hoa, hys, fun j _ => by rw [HYS.out, if_neg (by omega)], hbw⟩, hown3⟩
      case round =>
        obtain ⟨⟨k, zs, hk, rfl, hzl, hoz, hzs, hzc, hbz⟩, hop⟩ := hrel
        have HZL := Lib.hid hzl
        have HZC := Lib.hid hzc
        clear hzl hzc
        have hDr := hD.below hbz hDle
        have hd0 := hDr.c0
        have hcb := hDr.fld.c0
        by_cases hkn : k < n
        · have hkz : k < zs.length := by rw [HZL.out]; exact hkn
          have hca := hoz.at_ HZL.out.symm k hkz
          have hfa := hoz.frozen_ HZL.out.symm k
          have hcp := hop.at_ HLP.out.symm k (by rw [HLP.out]; exact hkn)
          have iz := hzs _ (List.getElem_mem hkz)
          have e1 : (fvs (powL (Zp.inv (el p (n : Int))) (Zp.inv (el p (fv s))) n))[k]'(by rw [HLP.out]; exact hkn) = fv (Zp.inv (el p (n : Int)) * pw (Zp.inv (el p (fv s))) k) := by
            rw [List.getElem_map]; exact congrArg fv (tab_get _ _ _ _)
          rw [e1] at hcp
          have hzk : co (els p zs) k = el p zs[k] := by rw [co_of_lt (by simpa using hkz)]; simp
          obtain ⟨z, hz⟩ : ∃ z, z = zs[k] := ⟨_, rfl⟩
          rw [← hz] at hca iz hzk
          obtain ⟨X, hX⟩ : ∃ X, X = Zp.inv (el p (n : Int)) * pw (Zp.inv (el p (fv s))) k := ⟨_, rfl⟩
          rw [← hX] at hcp
          obtain ⟨Z, hZ⟩ : ∃ Z, Z = el p z * X := ⟨_, rfl⟩
          have hmul := fun W hc => mul_any p hp2 b z (fv X) iz (i64_fv _ hp2) W hc
          rw [el_fv, ← hZ] at hmul
          have hnext : ∀ j, j < n → co (els p (zs.set k (fv Z))) j = if j < k + 1 then co (dft (Zp.inv R) n (els p xs)) j * (Zp.inv (el p (n : Int)) * pw (Zp.inv (el p (fv s))) j) else co (dft (Zp.inv R) n (els p xs)) j := by
            intro j hj
            rw [els, List.map_set, el_fv, co_set _ _ _ (by simpa using hkz)]
            have h1 := HZC.out j hj
            by_cases he : j = k
            · subst he
              rw [if_neg (by omega)] at h1
              rw [if_pos rfl, if_pos (by omega), hZ, ← hzk, h1, hX]
            · rw [if_neg he, h1]
              by_cases hlt : j < k
              · rw [if_pos hlt, if_pos (by omega)]
              · rw [if_neg hlt, if_neg (by omega)]
          have hall : ∀ y ∈ zs.set k (fv Z), I64 y := by
            intro y hy
            rcases List.mem_or_eq_of_mem_set hy with h | h
            · exact hzs y h
            · rw [h]; exact i64_fv _ hp2
          have HMUL := Lib.hid hmul
          have HNEXT := Lib.hid hnext
          have HALL := Lib.hid hall
          have i1 : (0 : Int) ≤ k := by omega
          have i2 : (k : Int) < n := by omega
          have hmx : Tryd.prog.follows .mixedOrders = true := by kernel_rfl
          clear hmul hnext hall hZ hX hz hzk e1
          go_wp2
          refine wp_region_quiet_tail 13 hmx (by kernel_rfl) ?_
          simp only [List.take_succ_cons, List.take_zero, List.drop_succ_cons, List.drop_zero]
          repeat (quiet_step ((go_at_call 70; exact Calls.quiet_of (HMUL.out _ (by exact hcb)))))
          refine wpQuiet_nil ?_
          intro _ hw'
          obtain ⟨nq1, hw''⟩ := hw'
          subst hw''
          go_wp2
          go_roundw
          case rel =>
            refine ⟨⟨k + 1, zs.set k (fv Z), by omega, by go_num, by rw [List.length_set]; exact HZL.out, (hoz.drewN nq1).store HZL.out.symm k _, HALL.out, HNEXT.out, (below_drewN hbz nq1).setCell hg1 _⟩, (hop.drewN nq1).far (by simp only [Value.ownBlock, ne_eq, Option.some.injEq]; omega) _⟩
          case measure => simp [intOf]; omega
        · obtain rfl : k = n := by omega
          have hzz : els p zs = coefL s R k (els p xs) := by
            refine ext_co (by rw [coefL_length, List.length_map, HZL.out]) fun j hj => ?_
            rw [List.length_map, HZL.out] at hj
            rw [HZC.out j hj, if_pos hj, coefL, co_tab, if_pos hj, dft, co_tab, if_pos hj, el_fv]
          have hsz : SL wr (some ⟨g, 0, none⟩) zs := by
            obtain ⟨A1, c1, h1, h2⟩ := hoz.len
            injection h1 with h1 _ _
            rw [h1]; exact h2
          have hkc : k ≤ c := by
            obtain ⟨Ao, no, co_, hvo, _, hco_, _, _⟩ := hoz.shapeN
            injection hvo with _ hv1 hv2
            omega
          have ht := trim_any p hp2 b (some ⟨g, 0, none⟩) c zs hzs (by rw [HZL.out]; omega) (by rw [HZL.out]; omega) wr hcb hsz
          rw [HZL.out, hzz] at ht
          have HT := Lib.hid ht
          clear ht hzz
          go_wp2_with fail
          refine (HT.out).mono ?_
          rintro e w4 ⟨v4, rfl, hown4, hb4⟩
          go_wp2
          go_ret2
          exact ⟨v4, rfl, hown4.more hbz.size, hbz.trans (hb4.mono hbz.size)⟩
/-- is a list a codeword? A Bool behind a name -/
noncomputable def cwB (p n : Nat) [NeZero p] (s : Fin p) (k : Int) (xs : List Int) : Bool := decide ((1 ≤ k ∧ k ≤ n) ∧ xs.length = n ∧ ((trimL (coefL s (rootI p n) n (els p xs))).length : Int) ≤ k)
set_option maxHeartbeats 1000000 in
theorem is_any (p S D b : Nat) [NeZero p] (n : Nat) (s : Fin p) (k : Int) (A : Option Addr) (m cap : Nat) (xs : List Int) (hml : xs.length = m) (hxs : ∀ x ∈ xs, I64 x) (w : World) (hD : Dom w S D b p n s) (hs : SL w A xs) :
    Calls Tryd.prog 37 #[.pointer (some ⟨D, 0, none⟩), vi k, .slice A m cap] w fun e w' => SaysW (.bool (cwB p n s k xs)) w e w' := by
  have hmay := may_any D n k w hD.c1
  by_cases h1 : 1 ≤ k ∧ k ≤ n
  · rw [mayB_true h1] at hmay
    have HMAY := Lib.hid hmay
    by_cases h2 : m = n
    · have hc := coefs_any p S D b n s A cap xs (by rw [hml, h2]) hxs w hD hs
      rw [← h2] at hc
      obtain ⟨B, hB⟩ : ∃ B, B = cwB p n s k xs := ⟨_, rfl⟩
      have hBe : B = decide (((trimL (coefL s (rootI p n) n (els p xs))).length : Int) ≤ k) := by
        rw [hB]; unfold cwB; rw [decide_eq_decide]
        exact ⟨fun h => h.2.2, fun h => ⟨h1, by rw [hml, h2], h⟩⟩
      rw [← hB]
      obtain ⟨l, hl⟩ : ∃ l, l = trimL (coefL s (rootI p m) m (els p xs)) := ⟨_, rfl⟩
      rw [← hl] at hc
      rw [← h2, ← hl] at hBe
      have HC := Lib.hid hc
      have HBE := Lib.hid hBe
      clear hc hmay hB hBe hl h1 h2 hml
      go_enter Tryd.func37, Tryd.ntmps37
      go_wp2_with fail
      refine (HMAY.out).mono ?_
      rintro e w' ⟨rfl, rfl⟩
      go_wp2_with fail
      refine (HC.out).mono ?_
      rintro e w1 ⟨v, rfl, hown, hb⟩
      obtain ⟨A1, n1, c1, rfl, hl1, _, _, _⟩ := hown.shapeN
      rw [List.length_map] at hl1
      have hfin : B = decide ((n1 : Int) ≤ k) := by rw [HBE.out, hl1]
      have HFIN := Lib.hid hfin
      clear hfin hl1
      by_cases h3 : (n1 : Int) ≤ k
      · have hf : B = true := by rw [HFIN.out]; exact decide_eq_true h3
        have HF := Lib.hid hf
        clear hf
        go_wp2
        go_ret
        exact ⟨ret_bool HF.out.symm, hb⟩
      · have hf : B = false := by rw [HFIN.out]; exact decide_eq_false h3
        have t3 : decide ((n1 : Int) ≤ k) = false := decide_eq_false h3
        have HF := Lib.hid hf
        clear hf
        go_wp2
        go_ret
        exact ⟨ret_bool HF.out.symm, hb⟩
    · have hc := coefs_bad D n A m cap h2 w hD.c1
      have hB : cwB p n s k xs = false := decide_eq_false (fun h => h2 (by rw [← hml]; exact h.2.1))
      have HC := Lib.hid hc
      have HB := Lib.hid hB
      clear hc hmay hB h1 h2 hml
      go_enter Tryd.func37, Tryd.ntmps37
      go_wp2_with fail
      refine (HMAY.out).mono ?_
      rintro e w' ⟨rfl, rfl⟩
      go_wp2_with fail
      refine (HC.out).mono ?_
      rintro e w' ⟨rfl, rfl⟩
      go_wp2
      go_ret
      exact ⟨ret_bool HB.out.symm, Below.refl _ _⟩
  · rw [mayB_false h1] at hmay
    have hB : cwB p n s k xs = false := decide_eq_false (fun h => h1 h.1)
    have HMAY := Lib.hid hmay
    have HB := Lib.hid hB
    clear hmay hB h1 hml
    go_enter Tryd.func37, Tryd.ntmps37
    go_wp2_with fail
    refine (HMAY.out).mono ?_
    rintro e w' ⟨rfl, rfl⟩
    go_wp2
    go_ret
    exact ⟨ret_bool HB.out.symm, Below.refl _ _⟩
end Go.Proofs.YtkhkoeibigpdnaaDoor
