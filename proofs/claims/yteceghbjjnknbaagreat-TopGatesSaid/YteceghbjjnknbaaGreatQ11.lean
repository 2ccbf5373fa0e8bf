/- A bundle of texts: Gw14, As, Asg, Gw15, Gw10, Hm. -/
import Derived.Test.YteceghbjjnknbaaGreatQ10
import Derived.Test.YteceghbjjnknbaaGreatQ02
import Derived.Test.YteceghbjjnknbaaGreatQ05
import Derived.Deep.RegionLaw
import Derived.Test.YteceghbjjnknbaaGreatQ09
import Derived.Test.YteceghbjjnknbaaGreatQ06
set_option linter.unusedVariables false
set_option linter.unusedSimpArgs false
namespace Go.Proofs.YteceghbjjnknbaaGreat
open Go.RowKit Zp
theorem Chn.rowFar {w w' : World} {c s : Nat} {D : List Int} {base : Nat} {e : TypeId} {sz n : Nat} {v : Value} {xs : List Value} (h : Chn w c s D) (ho : w.ownsRow base e sz v n xs) (hg : w.grownBy w' v.ownBlock) (h1 : e ≠ 3) (h2 : e ≠ 66) (h3 : 95 ≠ e) : Chn w' c s D := by
  obtain ⟨g, cap, t, cs, q1, q2, q3, q4, q5, q6, q7, q8⟩ := h
  have f1 := row_far ho hg q1 h3
  have f2 := row_far ho hg q2 (q3.ne h1 h2)
  refine ⟨g, cap, t, cs, f1, f2, q3, ?_, q5, q6, q7, q8⟩
  refine ⟨q4.1, fun hn => ?_⟩
  obtain ⟨ad, e', hb, hc⟩ := q4.2 hn
  injection e' with e'
  subst e'
  exact ⟨_, rfl, f2.lt, fun j u hu => (World.cell?_of_block (by rw [block_of_add]; exact (f2 : w'.heap[g]? = _).trans (q2 : w.heap[g]? = _).symm)).trans (hc j u hu)⟩
theorem Chn.app {w w' : World} {c s : Nat} {D : List Int} {base B : Nat} {v : Value} {xs : List Int} (h : Chn w c s D) (ho : Own w base v xs) (hg : w.grownBy w' v.ownBlock) (hc : c < base) (hd : DigNew w c B) (hB : ∀ g, v.ownBlock = some g → g < B) : Chn w' c s D := by
  cases hv : v.ownBlock with
  | none =>
    rw [hv] at hg
    exact h.below ⟨hg.os, hg.tape, hg.output, hg.size, fun i hi => hg.block i hi (by intro e; cases e)⟩
  | some g =>
    rw [hv] at hg
    have := (ho.lt g hv).1
    exact h.keepX hg (by omega) (hd.ne (hB g hv))
theorem le_max {c : Nat} (h : c ≤ maxLen) : c ≤ 9223372036854775807 := by
  have h2 : maxLen < 9223372036854775808 := by simp [maxLen]
  omega
def RowsNe (us : List Value) (x : Value) : Prop := ∀ u ∈ us, ∀ g, u.ownBlock = some g → x.ownBlock ≠ some g
theorem RowsOwn.ne_ {w w' : World} {base : Nat} {us : List Value} {ls : List (List Int)} {x : Value} (h : RowsOwn w base us ls) (hn : RowsNe us x) (hg : w.grownBy w' x.ownBlock) : RowsOwn w' base us ls :=
  ⟨h.1, fun k h1 h2 => (h.2 k h1 h2).grown hg (by
    cases hv : us[k].ownBlock with
    | none => exact .inl rfl
    | some g => exact .inr (fun e => hn _ (List.getElem_mem h1) g hv e.symm))⟩
theorem RowsNe.fresh {w : World} {base B : Nat} {us : List Value} {ls : List (List Int)} {x x' : Value} (h : RowsOwn w base us ls) (hn : RowsNe us x) (hB : w.heap.size ≤ B) (hx : x'.ownBlock = x.ownBlock ∨ ∃ k, x'.ownBlock = some k ∧ B ≤ k) : RowsNe us x' := fun u hu g hg => by
  rcases hx with hx | ⟨k, hk, hkB⟩
  · rw [hx]; exact hn u hu g hg
  · rw [hk]
    intro e
    injection e with e
    obtain ⟨i, hi, rfl⟩ := List.mem_iff_getElem.1 hu
    have h2 : i < ls.length := by rw [← h.1]; exact hi
    have := ((h.2 i hi h2).lt g hg).2
    omega
theorem RowsNe.snoc {us : List Value} {x u : Value} (h : RowsNe us x) (hu : ∀ g, u.ownBlock = some g → x.ownBlock ≠ some g) : RowsNe (us ++ [u]) x := fun y hy => by
  rcases List.mem_append.1 hy with hy | hy
  · exact h y hy
  · simp only [List.mem_cons, List.not_mem_nil, or_false] at hy
    subst hy
    exact hu
section
variable (p kk : Nat) [NeZero p] (f : Nat → Fin p) (n : Nat) (L : List GateI) (z : List (Fin p)) (D : List Int)
def toldG (r : Nat) : List (List Int) := (List.range r).map fun i => told3 p f n L z (xsG p kk f n L z D i)
theorem toldG_len (r : Nat) : (toldG p kk f n L z D r).length = r := by simp [toldG]
theorem toldG_succ (r : Nat) : toldG p kk f n L z D (r + 1) = toldG p kk f n L z D r ++ [told3 p f n L z (xsG p kk f n L z D r)] := by simp [toldG, List.range_succ]
theorem xsG_succ (r : Nat) : fvs (xsG p kk f n L z D (r + 1)) = fvs (xsG p kk f n L z D r) ++ [(drawnL p kk (digL p kk (3 :: (dgG p kk f n L z D r ++ told3 p f n L z (xsG p kk f n L z D r))))).getD 0 0] := by
  have e : xsG p kk f n L z D (r + 1) = xsG p kk f n L z D r ++ [el p ((drawnL p kk (digL p kk (3 :: (dgG p kk f n L z D r ++ told3 p f n L z (xsG p kk f n L z D r))))).getD 0 0)] := rfl
  rw [e]
  obtain ⟨x, hx⟩ := digL_bounds (p := p) (k := kk) (4 :: digL p kk (3 :: (dgG p kk f n L z D r ++ told3 p f n L z (xsG p kk f n L z D r)))) (j := 0) (by omega)
  have hx' : (drawnL p kk (digL p kk (3 :: (dgG p kk f n L z D r ++ told3 p f n L z (xsG p kk f n L z D r))))).getD 0 0 = fv x := hx
  rw [hx', el_fv]
  simp [fvs]
theorem dgG_succ (r : Nat) : dgG p kk f n L z D (r + 1) = drawnL p kk (digL p kk (3 :: (dgG p kk f n L z D r ++ told3 p f n L z (xsG p kk f n L z D r)))) := rfl
theorem told3_at (xs : List (Fin p)) (j : Nat) (hj : j < 3) : (told3 p f n L z xs)[j]? = some (fv (partE f n L z (xs ++ [el p ((j : Nat) : Int)]))) := by
  have e0 : el p ((0 : Nat) : Int) = 0 := by simpa using el_zero (p := p)
  have e1 : el p ((1 : Nat) : Int) = 1 := by simpa using el_one (p := p)
  have e2 : el p ((2 : Nat) : Int) = 1 + 1 := by simpa using el_two (p := p)
  rcases (show j = 0 ∨ j = 1 ∨ j = 2 by omega) with rfl | rfl | rfl
  · rw [e0]; rfl
  · rw [e1]; rfl
  · rw [e2]; rfl
theorem told3_i64 (hm : p ≤ 2147483647) (xs : List (Fin p)) : ∀ x ∈ told3 p f n L z xs, I64 x := fun x hx => by
  simp only [told3, List.mem_cons, List.not_mem_nil, or_false] at hx
  rcases hx with rfl | rfl | rfl <;> exact i64_fv _ hm
end
theorem parts_sl {p : Nat} [NeZero p] {w : World} {AX : Option Addr} {n cX : Nat} {X : List (Fin p)} (h : SL w AX (fvs X)) (hl : X.length = 2 * n) (hc : 2 * n ≤ cX) : SL w AX (fvs (X.take n)) ∧ SL w (if cX = n then AX else Option.map (fun x => x.add n) AX) (fvs (X.drop n)) := by
  have hlX : (fvs X).length = 2 * n := by simpa [fvs] using hl
  constructor
  · have e : (fvs (X.take n)) = (fvs X).take n := by simp [fvs]
    rw [e]; exact h.take n
  · have hsy := Reads.cut (k := n) (cap := cX) h (by rw [hlX]; omega) (by rw [hlX]; omega)
    rw [Nat.mul_one] at hsy
    unfold SL
    have e : (fvs (X.drop n)) = (fvs X).drop n := by simp [fvs]
    rw [e, List.length_drop, List.map_drop]
    exact hsy
def DownIs {p : Nat} [NeZero p] (kk c s : Nat) (f : Nat → Fin p) (n : Nat) (L : List GateI) (z : List (Fin p)) (D : List Int) (w : World) (e : Ending) (w' : World) : Prop :=
  ∃ (AT A5 AN : Option Addr) (cN : Nat), e = .returned (.tuple #[.slice AT (2 * n) (2 * n), .slice A5 (n + 1) (n + 1), .slice AN n cN]) ∧ n ≤ cN ∧
    (∀ W, KeepUp w.heap.size w' W → TB W AT (toldG p kk f n L z D (2 * n)) ∧ SL W A5 (lineG p kk f n L z D) ∧ SL W AN (fvs (zN p kk f n L z D))) ∧ (∀ ad, AN = some ad → c < ad.block) ∧ Chn w' c s (dgN p kk f n L z D) ∧ w.grownBy w' (some c)
set_option maxRecDepth 100000 in
set_option maxHeartbeats 8000000 in
theorem wdown_any (p S b s kk zz k v c : Nat) [NeZero p] (oo : Nat → Nat → Fin p) (AL : Option Addr) (nL cL : Nat) (Ls : List (List GateR)) (hLn : Ls.length = nL) (hyes : CirR (v : Int) Ls) (AV : Option Addr) (nV cV : Nat) (rows : List (List Int)) (hrn : rows.length = nV) (li : Nat) (hli : li < Ls.length) (hlr : li < rows.length) (L : List (Fin p)) (hL : rows[li] = fvs L) (n : Nat) (hn : n = nvR Ls v li) (hLl : L.length = 2 ^ n)
    (A : Option Addr) (nz cz : Nat) (zs : List Int) (hzs : zs.length = nz) (hnz : nz ≤ 64) (hzI : ∀ x ∈ zs, I64 x) (D : List Int) (w : World) (hp2 : p ≤ 2147483647) (hSc : S ≤ c) (hsc : s < c)
    (HK : ∀ W, w.grownBy W (some c) → Fld W S b p ∧ Spg W s b kk zz oo ∧ Wkr W k b v AL nL cL Ls AV nV cV rows ∧ SL W A zs) (hC : Chn w c s D) :
    Calls Tryz.prog 24 #[.pointer (some ⟨k, 0, none⟩), .pointer (some ⟨c, 0, none⟩), vi li, .slice A nz cz] w (DownIs kk c s (co L) n (Ls[li].map gI) (els p zs) D w) := by
  have hc := hC.lt
  have h6 : n ≤ 6 := by rw [hn]; exact hyes.small li
  have hVA := Lib.hid (fun W hLT => vars_lvl v AL nL cL Ls hLn hyes li (by omega) ((li : Int) - 1) rfl W hLT)
  rw [← hn] at hVA
  have h8 : nL ≤ 8 := by have := hyes.n8; omega
  have hli8 : li ≤ 8 := by omega
  have iw : IntKind.i64.wrap ((li : Int) - 1) = (li : Int) - 1 := IntWalk.i64_in _ (by constructor <;> omega)
  have HPA := Lib.hid (fun (bd : Addr) (s' c' : Nat) (xs : List Int) hs hsc hc9 hsn hI W F Wk hz hxs => part_any p S b k v AL nL cL Ls hLn hyes AV nV cV rows hrn li hli hlr L hL n hn hLl A nz cz zs hzs hnz hzI bd s' c' xs hs hsc hc9 hsn hI W F Wk hz hxs)
  have i1 : (0 : Int) ≤ (li : Int) := by omega
  have i2 : (li : Int) < (nV : Int) := by omega
  obtain ⟨f, hf⟩ : ∃ f, f = co L := ⟨_, rfl⟩
  obtain ⟨LI, hLI⟩ : ∃ LI, LI = Ls[li].map gI := ⟨_, rfl⟩
  obtain ⟨z, hz⟩ : ∃ z, z = els p zs := ⟨_, rfl⟩
  have HL : Hid (∃ h : li < rows.length, rows[li]'h = fvs L) := Lib.hid ⟨hlr, hL⟩
  have HLL := Lib.hid hLl
  rw [← hf, ← hLI, ← hz] at HPA
  rw [← hf, ← hLI, ← hz]
  have HFE := Lib.hid hf
  have HKK := Lib.hid HK
  have HC := Lib.hid hC
  have KW := HK w ⟨rfl, rfl, rfl, Nat.le_refl _, fun _ _ _ => rfl⟩
  have e1 := (KW.2.2.1.blk.cell 1).trans (show _ = some (vi (v : Int)) from rfl)
  have e2 := (KW.2.2.1.blk.cell 2).trans (show _ = some (.slice AL nL cL) from rfl)
  have HKW := Lib.hid KW
  have t2n : IntKind.i64.wrap (2 * (n : Int)) = 2 * (n : Int) := IntWalk.i64_in _ (by constructor <;> omega)
  have t1n : IntKind.i64.wrap ((n : Int) + 1) = (n : Int) + 1 := IntWalk.i64_in _ (by constructor <;> omega)
  clear HK hC KW hf hLI hz hL hLl hn hlr hli hrn hyes hLn hzs hzI
  go_enter Tryz.func24, Tryz.ntmps24
  go_wp2_with fail
  refine (hVA.out _ HKW.out.2.2.1.lt).mono ?_
  rintro _ w2 ⟨rfl, hb2⟩
  have HG2 := Lib.hid (grown_of_below hb2 (some c))
  have HC2 := Lib.hid (HC.out.below hb2)
  clear hb2
  go_wp2
  go_loopw [8, 12, 29] (fun tv xv i wr => ∃ (r : Nat) (us : List Value), r ≤ 2 * n ∧ i = vi r ∧ OwnR wr w.heap.size tv us ∧ RowsOwn wr w.heap.size us (toldG p kk f n LI z D r) ∧ Own wr w.heap.size xv (fvs (xsG p kk f n LI z D r)) ∧ RowsNe us xv ∧ Chn wr c s (dgG p kk f n LI z D r) ∧ w.grownBy wr (some c)) (fun _ _ i _ => 2 * n - (intOf i).toNat)
  case atStart => exact ⟨0, [], Nat.zero_le _, rfl, World.ownsRow_nil _ _ _ _, RowsOwn.nil _ _, World.ownsRow_nil _ _ _ _, (fun u hu => by cases hu), HC2.out, HG2.out⟩
  case round =>
    rename World => w3
    obtain ⟨r, us, hr, rfl, hT, hR, hX, hNE, hC3, hg3⟩ := hrel
    obtain ⟨AT, nT, cT, rfl, hnT, hcT⟩ := ownR_shape hT
    obtain ⟨AX, nX, cX, rfl, hlX, hcX, hmX, hsX⟩ := hX.shapeN
    have hxl : (xsG p kk f n LI z D r).length = r := xsG_length p kk f n LI z D r
    have hnX : nX = r := by rw [← hlX]; simpa [fvs] using hxl
    subst hnX
    by_cases hrn : nX < 2 * n
    · obtain ⟨X, hXe⟩ : ∃ X, X = xsG p kk f n LI z D nX := ⟨_, rfl⟩
      obtain ⟨Dr, hDr⟩ : ∃ Dr, Dr = dgG p kk f n LI z D nX := ⟨_, rfl⟩
      have hxs := xsG_succ p kk f n LI z D nX
      have hds := dgG_succ p kk f n LI z D nX
      have hts := toldG_succ p kk f n LI z D nX
      obtain ⟨TO, hTO⟩ : ∃ TO, TO = told3 p f n LI z X := ⟨_, rfl⟩
      rw [← hXe] at hX hlX hsX hxl hxs hds hts
      rw [← hDr] at hC3 hxs hds
      rw [← hTO] at hxs hds hts
      have HXS := Lib.hid hxs
      have HDS := Lib.hid hds
      have HTS := Lib.hid hts
      have HTO : Hid (∀ j, j < 3 → TO.take (j + 1) = TO.take j ++ [fv (partE f n LI z (X ++ [el p ((j : Nat) : Int)]))]) := Lib.hid fun j hj => by
        rw [List.take_add_one, hTO, told3_at p f n LI z X j hj]; rfl
      have HTL : Hid (TO.length = 3 ∧ ∀ x ∈ TO, I64 x) := Lib.hid (by rw [hTO]; exact ⟨rfl, told3_i64 p f n LI z hp2 X⟩)
      have HT := Lib.hid (And.intro hT hR)
      have HX := Lib.hid (And.intro hX (And.intro hlX hsX))
      have HNE := Lib.hid hNE
      have HC3 := Lib.hid hC3
      have HG3 := Lib.hid hg3
      have hr12 : nX ≤ 12 := by omega
      have k0 : (nX : Int) < 2 * (n : Int) := by omega
      have hcX9 := le_max hmX
      clear hT hR hX hC3 hg3 hlX hsX hxl hXe hDr hTO hxs hds hts hNE
      go_upto_region 7 with (fail)
      go_loopw [13, 31] (fun lv i wr => ∃ j : Nat, j ≤ 3 ∧ i = vi j ∧ Own wr w3.heap.size lv (TO.take j) ∧ Below w3.heap.size w3 wr) (fun _ i _ => 3 - (intOf i).toNat)
      case atStart => exact ⟨0, Nat.zero_le _, rfl, World.ownsRow_nil _ _ _ _, Below.refl _ _⟩
      case round =>
        obtain ⟨j, hj, rfl, ho, hb⟩ := hrel
        by_cases hj3 : j < 3
        · have HO := Lib.hid ho
          have HB := Lib.hid hb
          have HCL := Lib.hid (clone_any AX nX cX (fvs X) HX.out.2.1 (by omega) wr (HX.out.2.2.below hb))
          have HLF := Lib.hid (show (fvs X).length < 17592186044416 by rw [HX.out.2.1]; omega)
          have HLT := Lib.hid (show (TO.take j).length < 17592186044416 by rw [List.length_take]; omega)
          clear ho hb
          go_wp2_with fail
          refine HCL.out.mono ?_
          rintro _ w4 ⟨v4, rfl, ho4, hb4⟩
          obtain ⟨A4, n4, c4, rfl, hl4, _, _, _⟩ := ho4.shapeN
          have HO4 := Lib.hid (And.intro ho4 hb4)
          clear ho4 hb4 hl4
          go_wp2_with (at_builtin; refine wpList_app1 w4 (j : Int) rfl _ _ rfl wr.heap.size (.slice A4 n4 c4) _ rfl rfl HO4.out.1 HLF.out HO4.out.2.size ?_; intro v5 w5 hg5; obtain ⟨A5, n5, c5, rfl, hl5, hc5, hm5, hs5⟩ := hg5.own.shapeN)
          have hb5 := hg5.below HO4.out.2 HO4.out.1 (Nat.le_refl _) HO4.out.2.size
          have hb35 := HB.out.trans (hb5.mono HB.out.size)
          have hg35 : w.grownBy w5 (some c) := grownBy_trans HG3.out (grown_of_below hb35 _)
          have hn5 : n5 = nX + 1 := by rw [← hl5, List.length_append, HX.out.2.1]; rfl
          obtain ⟨bd, rfl, -, -⟩ := hs5.at_ (k := 0) (by rw [hl5]; omega)
          have hel : els p (fvs X ++ [(j : Int)]) = X ++ [el p ((j : Nat) : Int)] := by rw [els, List.map_append, ← els, els_fvs]; rfl
          have h := HPA.out bd n5 c5 (fvs X ++ [(j : Int)]) hl5 hc5 (le_max hm5) (by omega) (fun x hx => by
            rcases List.mem_append.1 hx with hx | hx
            · exact i64_fvs X hp2 x hx
            · simp only [List.mem_cons, List.not_mem_nil, or_false] at hx
              rw [hx]; constructor <;> omega) w5 (HKK.out w5 hg35).1 (HKK.out w5 hg35).2.2.1 (HKK.out w5 hg35).2.2.2 hs5
          rw [hel] at h
          have HPP := Lib.hid h
          have HB35 := Lib.hid hb35
          have HB5 := Lib.hid hb5
          clear hg5 hl5 hs5 hb5 hb35 hg35 hel h
          refine HPP.out.mono ?_
          rintro _ w6 ⟨rfl, hb6⟩
          have hb36 := HB35.out.trans (hb6.mono HB35.out.size)
          have ho6 := HO.out.below (HB5.out.trans (hb6.mono HB5.out.size))
          have HTJ := Lib.hid (HTO.out j hj3)
          have HO6 := Lib.hid (And.intro ho6 hb36)
          clear hb6 hb36 ho6
          go_upto_region 10 with (at_builtin; refine wpList_app1 w6 (fv (partE f n LI z (X ++ [el p ((j : Nat) : Int)]))) rfl _ _ rfl w3.heap.size _ _ rfl rfl HO6.out.1 HLT.out HO6.out.2.size ?_; intro v7 w7 hg7; obtain ⟨A7, n7, c7, rfl, hl7, _, _, _⟩ := hg7.own.shapeN)
          have ho7 := hg7.own
          rw [← HTJ.out] at ho7
          have hb7 := hg7.below HO6.out.2 HO6.out.1 (Nat.le_refl _) HO6.out.2.size
          have HO7 := Lib.hid (And.intro ho7 hb7)
          clear ho7 hb7 hg7 hl7
          go_wp2
          go_roundw
          case rel => exact ⟨j + 1, by omega, by go_num, HO7.out.1, HO7.out.2⟩
          case measure => simp only [intOf, Int.toNat_natCast]; omega
        · obtain rfl : j = 3 := by omega
          rename World => w4
          rw [List.take_of_length_le (by rw [HTL.out.1]; exact Nat.le_refl _)] at ho
          obtain ⟨A4, n4, c4, rfl, hl4, _, _, _⟩ := ho.shapeN
          have hn4 : n4 = 3 := by rw [← hl4]; exact HTL.out.1
          subst hn4
          have hT4 := HT.out.1.below hb
          have hX4 := HX.out.1.below hb
          have HT4 := Lib.hid (And.intro hT4 (HT.out.2.below hb))
          have HX4 := Lib.hid hX4
          have HC4 := Lib.hid (HC3.out.below hb)
          have HO4 := Lib.hid ho
          have HB4 := Lib.hid hb
          have hgw4 : w.grownBy w4 (some c) := grownBy_trans HG3.out (grown_of_below hb _)
          have HGW4 := Lib.hid hgw4
          have HUL := Lib.hid (show us.length < 5864062014805 by rw [hnT, ← hnT, HT.out.2.1, toldG_len]; omega)
          clear ho hb hT4 hX4 hgw4 hl4
          go_wp2_with (at_builtin; refine wpList_appR w4 A4 3 c4 rfl _ _ rfl w.heap.size (.slice AT nT cT) us rfl rfl HT4.out.1 HUL.out HGW4.out.size ?_; intro v5 w5 hg5; obtain ⟨A5, n5, c5, rfl, hn5, hc5⟩ := ownR_shape hg5.own)
          have hlo : w3.heap.size ≤ w4.heap.size := HB4.out.size
          have hO5 := HO4.out.grown hg5.grown (own_ne HO4.out HT4.out.1)
          have hX5 := HX4.out.grown hg5.grown (own_ne HX4.out HT4.out.1)
          have hC5 := HC4.out.rowFar HT4.out.1 hg5.grown (by decide) (by decide) (by decide)
          have hR5 := hg5.rows HT4.out.1 HT4.out.2
          have hgw5 : w.grownBy w5 (some c) := grownBy_new HGW4.out hg5.grown fun q hq => (World.ownsRow.lt HT4.out.1 q hq).1
          have HT5 := Lib.hid (And.intro hg5.own (hR5.snoc (hO5.more (Nat.le_trans HG3.out.size (Nat.le_refl _)))))
          have hNE5 : RowsNe (us ++ [.slice A4 3 c4]) (.slice AX nX cX) := HNE.out.snoc fun q hq e => by
            have h1 := (HX.out.1.lt q e).2
            have h2 := (HO4.out.lt q hq).1
            omega
          have HX5 := Lib.hid (And.intro hX5 hNE5)
          have HGW5 := Lib.hid hgw5
          have HSAFE := Lib.hid (fun (W : World) (hg : w5.grownBy W (some c)) => (show Safe w5 W by obtain ⟨cv, hcv⟩ := hC5.obj; exact Safe.one hg hcv ⟨by decide, by decide, by decide⟩))
          obtain ⟨A4', n4', c4', e4, hl4, _, _, hs5⟩ := hO5.shapeN
          injection e4 with q1 q2 q3
          subst q1 q2 q3
          have HTK := Lib.hid (chtake_any p S b s kk zz c oo Dr A4 3 c4 TO HTL.out.1 HTL.out.2 (by decide) w5 (HKK.out w5 hgw5).1 (HKK.out w5 hgw5).2.1 hSc hsc hC5 hs5)
          clear hg5 hO5 hX5 hC5 hR5 hgw5 hs5 hl4 hn5 hc5 hNE5
          refine HTK.out.mono ?_
          rintro _ w6 ⟨⟨r6, rfl⟩, hC6, hg6, hd6⟩
          have hS6 : Safe w5 w6 := HSAFE.out w6 hg6
          have hT6 := HT5.out.1.safe hS6
          have hR6 := HT5.out.2.safe hS6
          have hX6 := HX5.out.1.safe hS6
          have hgw6 := grownBy_trans HGW5.out hg6
          obtain ⟨dv, hdv⟩ : ∃ dv, dv = (drawnL p kk (digL p kk (3 :: (Dr ++ TO)))).getD 0 0 := ⟨_, rfl⟩
          have HXS2 := HXS
          rw [← hdv] at HXS2
          have hdr := chdraw_any p S b s kk zz c oo (digL p kk (3 :: (Dr ++ TO))) w6 (HKK.out w6 hgw6).1 (HKK.out w6 hgw6).2.1 hSc hsc hC6
          unfold DrawIs at hdr
          rw [← hdv] at hdr
          have HDR := Lib.hid hdr
          clear hdr hdv
          have HSAFE6 := Lib.hid (fun (W : World) (hg : w6.grownBy W (some c)) => (show Safe w6 W by obtain ⟨cv, hcv⟩ := hC6.obj; exact Safe.one hg hcv ⟨by decide, by decide, by decide⟩))
          have HT6 := Lib.hid (And.intro hT6 (And.intro hR6 hX6))
          have HGW6 := Lib.hid hgw6
          clear hC6 hg6 hd6 hS6 hT6 hR6 hX6 hgw6
          go_wp2_with fail
          refine HDR.out.mono ?_
          rintro _ w7 ⟨rfl, hC7, hg7, hd7⟩
          have hS7 := HSAFE6.out w7 hg7
          have hT7 := HT6.out.1.safe hS7
          have hR7 := HT6.out.2.1.safe hS7
          have hX7 := HT6.out.2.2.safe hS7
          have hgw7 := grownBy_trans HGW6.out hg7
          have HX7 := Lib.hid (And.intro hX7 (And.intro hT7 (And.intro hR7 (And.intro hC7 hd7))))
          have HGW7 := Lib.hid hgw7
          have HXL := Lib.hid (show ∀ q, (Value.slice AX nX cX).ownBlock = some q → q < w6.heap.size from fun q hq => (HT6.out.2.2.lt q hq).2)
          have HLF := Lib.hid (show (fvs X).length < 17592186044416 by rw [HX.out.2.1]; omega)
          clear hC7 hg7 hd7 hS7 hT7 hR7 hX7 hgw7
          go_upto_region 14 with (at_builtin; refine wpList_app1 w7 dv rfl _ _ rfl w.heap.size (.slice AX nX cX) (fvs X) rfl rfl HX7.out.1 HLF.out HGW7.out.size ?_; intro v8 w8 hg8; obtain ⟨A8, n8, c8, rfl, hl8, _, _, _⟩ := hg8.own.shapeN)
          have hC8 := HX7.out.2.2.2.1.app HX7.out.1 hg8.grown hc HX7.out.2.2.2.2 HXL.out
          rw [← HDS.out] at hC8
          have hT8 : OwnR w8 w.heap.size (.slice A5 n5 c5) (us ++ [.slice A4 3 c4]) := row_stay HX7.out.1 hg8.grown HX7.out.2.1 (by decide)
          have hR8 := HX7.out.2.2.1.ne_ HX5.out.2 hg8.grown
          rw [← HTS.out] at hR8
          have hN8 : RowsNe (us ++ [.slice A4 3 c4]) (.slice A8 n8 c8) := RowsNe.fresh HX7.out.2.2.1 HX5.out.2 (Nat.le_refl _) hg8.at_
          have ho8 := hg8.own
          rw [← HXS2.out] at ho8
          have hgw8 : w.grownBy w8 (some c) := grownBy_new HGW7.out hg8.grown fun q hq => (HX7.out.1.lt q hq).1
          have H8 := Lib.hid (And.intro hT8 (And.intro hR8 (And.intro ho8 (And.intro hN8 (And.intro hC8 hgw8)))))
          clear hC8 hT8 hR8 hN8 ho8 hgw8 hg8 hl8
          go_wp2
          go_roundw
          case rel => exact ⟨nX + 1, us ++ [.slice A4 3 c4], by omega, by go_num, H8.out.1, H8.out.2.1, H8.out.2.2.1, H8.out.2.2.2.1, H8.out.2.2.2.2.1, H8.out.2.2.2.2.2⟩
          case measure => simp only [intOf, Int.toNat_natCast]; omega
    · have en : nX = 2 * n := by omega
      subst en
      have k0 : ¬ ((2 * n : Nat) : Int) < 2 * (n : Int) := by omega
      have k0' : ¬ 2 * (n : Int) < 2 * (n : Int) := by omega
      have kc : n ≤ cX := by omega
      have k2 : (n : Int) ≤ 2 * (n : Int) := by omega
      have e2n : 2 * n - n = n := by omega
      obtain ⟨X, hXe⟩ : ∃ X, X = xsG p kk f n LI z D (2 * n) := ⟨_, rfl⟩
      rw [← hXe] at hX hlX hsX hxl
      obtain ⟨AY, hAY⟩ : ∃ AY, AY = (if cX = n then AX else Option.map (fun x => x.add n) AX) := ⟨_, rfl⟩
      have HAY := Lib.hid hAY
      have HOX := Lib.hid hX
      have HXL := Lib.hid hxl
      go_upto_region 15 with (fail)
      refine wp_region_held_drew (S := fun W' => True) (by kernel_rfl) trivial (fun hHeld => ?_)
      refine tkH 0 ?_
      refine tkH 1 ?_
      refine tkH 2 ?_
      refine tkH 3 ?_
      refine tkH 4 ?_
      refine tkH 5 ?_
      refine tkH 6 ?_
      refine tkH 7 ?_
      refine wpAnyH_done (by kernel_rfl) ?_ _
      rw [← hAY]
      have HL1 := Lib.hid (show (X.take n).length = n by rw [List.length_take, hxl]; omega)
      have HL2 := Lib.hid (show (X.drop n).length = n by rw [List.length_drop, hxl]; omega)
      have HXY := Lib.hid (show SL w3 AX (fvs (X.take n)) ∧ SL w3 AY (fvs (X.drop n)) by rw [HAY.out]; exact parts_sl hsX hxl hcX)
      have HT := Lib.hid (And.intro hT hR)
      have HC3 := Lib.hid hC3
      have HG3 := Lib.hid hg3
      have HXE := Lib.hid hXe
      have HNT : Hid (nT = 2 * n) := Lib.hid (by rw [← hnT, hR.1, toldG_len])
      clear hHeld hX hlX hsX hxl hT hR hC3 hg3 hXe hAY hnT hNE
      have HCX := Lib.hid (And.intro kc hcX)
      have HLINE : Hid (∀ t, t < n + 1 → (lineG p kk f n LI z D).take (t + 1) = (lineG p kk f n LI z D).take t ++ [fv (extF f (betw (X.take n) (X.drop n) (el p ((t : Nat) : Int))))]) := Lib.hid fun t ht => by
        rw [List.take_add_one]
        congr 1
        have e : (lineG p kk f n LI z D)[t]? = some (fv (extF f (betw (X.take n) (X.drop n) (el p ((t : Nat) : Int))))) := by
          unfold lineG
          rw [List.getElem?_map, List.getElem?_range ht, HXE.out]; rfl
        rw [e]; rfl
      have HLL2 : Hid ((lineG p kk f n LI z D).length = n + 1 ∧ ∀ x ∈ lineG p kk f n LI z D, I64 x) := Lib.hid ⟨by simp [lineG], fun x hx => by
        unfold lineG at hx
        obtain ⟨t, _, rfl⟩ := List.mem_map.1 hx
        exact i64_fv _ hp2⟩
      go_wp2
      go_loopw [9, 68] (fun lv i wr => ∃ t : Nat, t ≤ n + 1 ∧ i = vi t ∧ Own wr w3.heap.size lv ((lineG p kk f n LI z D).take t) ∧ Below w3.heap.size w3 wr) (fun _ i _ => n + 1 - (intOf i).toNat)
      case atStart => exact ⟨0, Nat.zero_le _, rfl, World.ownsRow_nil _ _ _ _, below_drewN (Below.refl _ _) 1⟩
      case round =>
        obtain ⟨t, ht, rfl, ho, hb⟩ := hrel
        by_cases htn : t < n + 1
        · have HO := Lib.hid ho
          have HB := Lib.hid hb
          have hgw : w.grownBy wr (some c) := grownBy_trans HG3.out (grown_of_below hb _)
          have HW4 := Lib.hid (HKK.out wr hgw)
          obtain ⟨hlr, hL⟩ := HL.out
          obtain ⟨av, A1, n1, c1, rfl, hav, hcv, hl1, hn1, hs1, -⟩ := HW4.out.2.2.1.tb li hlr
          rw [hL] at hl1 hs1
          have hn1e : n1 = 2 ^ n := by rw [← hl1, ← HLL.out]; simp [fvs]
          have HS1 := Lib.hid (And.intro hl1 (And.intro hs1 hn1e))
          have HCV := Lib.hid hcv
          have k1 : (t : Int) < (n : Int) + 1 := by omega
          have KS : Hid (∀ W, Below wr.heap.size wr W → W.cell? ⟨k, 0, none⟩ = some (.pointer (some ⟨b, 0, none⟩)) ∧ W.cell? ⟨k, 3, none⟩ = some (.slice (some av) nV cV) ∧ W.cell? (av.add li) = some (.slice A1 n1 c1)) := Lib.hid fun W hb' => by
            have h := HW4.out.2.2.1.below hb'
            exact ⟨(h.blk.cell 0).trans rfl, (h.blk.cell 3).trans rfl, (hb'.cell hav).trans HCV.out⟩
          have hb0 : Below wr.heap.size wr wr.drew := below_drewN (Below.refl _ _) 1
          have HLF := Lib.hid (show ((lineG p kk f n LI z D).take t).length < 17592186044416 by rw [List.length_take, HLL2.out.1]; omega)
          have HT1 := Lib.hid (HLINE.out t htn)
          clear ho hb hgw hav hcv hl1 hs1 hL hn1e
          go_upto_region 19 with (fail)
          refine wp_region_held_drew (S := fun W => W.cell? ⟨k, 0, none⟩ = some (.pointer (some ⟨b, 0, none⟩)) ∧ W.cell? ⟨k, 3, none⟩ = some (.slice (some av) nV cV) ∧ W.cell? (av.add li) = some (.slice A1 n1 c1)) (by kernel_rfl) (KS.out _ hb0) (fun hHeld => ?_)
          refine tkH 0 ?_
          refine tkH 1 ?_
          refine tkH 2 ?_
          refine tkH 3 ?_
          refine tkH 4 ?_
          refine tkH 5 ?_
          refine tkH 6 ?_
          refine tkH 7 ?_
          refine tkH 8 ?_
          refine tkH 9 ?_
          refine tkH 10 ?_
          refine tkH 11 ?_
          refine tkH 12 ?_
          refine tkH 13 ?_
          refine tkH 14 ?_
          refine tkH 15 ?_
          refine tkH 16 ?_
          refine tkH 17 ?_
          refine stH 18 (fun K hK => ?_)
          go_simp
          refine (between_any p S b n (by omega) AX AY cX (cX - n) (fvs (X.take n)) (fvs (X.drop n)) (by simpa [fvs] using HL1.out) (by simpa [fvs] using HL2.out) (i64_fvs _ hp2) (i64_fvs _ hp2) (t : Int) (by constructor <;> omega) wr.drew ((HW4.out.1).below hb0 HW4.out.1.le) (HXY.out.1.below (below_drewN HB.out 1)) (HXY.out.2.below (below_drewN HB.out 1))).mono ?_
          rw [els_fvs, els_fvs]
          rintro _ w5 ⟨v5, rfl, ho5, hb5⟩
          obtain ⟨A5, n5, c5, rfl, hl5, _, _, hs5⟩ := ho5.shapeN
          have hn5 : n5 = n := by
            rw [← hl5]
            have h := betw_length (X.take n) (X.drop n) (el p ((t : Nat) : Int)) (by rw [HL1.out, HL2.out])
            simp only [fvs, List.length_map]
            rw [h, HL1.out]
          subst hn5
          have hb05 := hb0.trans (hb5.mono hb0.size)
          refine hK.out _ _ (KS.out _ hb05) (fun hHeld => ?_)
          clear hK K ho5 hb5
          (try simp only [Act.put, List.setIfInBounds_toArray, List.set_cons_zero, List.set_cons_succ])
          refine stH 19 (fun K hK => ?_)
          go_simp
          have hex := extend_any p S b n1 n5 ⟨by omega, HS1.out.2.2⟩ A1 c1 (fvs L) HS1.out.1 (i64_fvs _ hp2) A5 c5 (fvs (betw (X.take n5) (X.drop n5) (el p ((t : Nat) : Int)))) hl5 (i64_fvs _ hp2) w5 (HW4.out.1.below hb05 HW4.out.1.le) (HS1.out.2.1.below hb05) hs5
          rw [els_fvs, els_fvs, co_extL (by rw [HLL.out]; simp only [fvs, List.length_map] at hl5; rw [hl5]), ← HFE.out] at hex
          refine hex.mono ?_
          rintro _ w6 ⟨rfl, hb6⟩
          have hb06 := hb05.trans (hb6.mono hb05.size)
          refine hK.out _ _ (KS.out _ hb06) (fun hHeld => ?_)
          clear hK K hb6 hex hs5 hl5
          (try simp only [Act.put, List.setIfInBounds_toArray, List.set_cons_zero, List.set_cons_succ])
          refine tkH 20 ?_
          refine tkH 21 ?_
          refine tkH 22 ?_
          refine tkH 23 ?_
          refine tkH 24 ?_
          refine wpAnyH_done (by kernel_rfl) ?_ _
          have HO6 := Lib.hid (And.intro (HO.out.below hb06) (HB.out.trans (hb06.mono HB.out.size)))
          clear hHeld KS hb0 hb05 hb06
          go_upto_region 21 with (at_builtin; refine wpList_app1 w6 (fv (extF f (betw (X.take n5) (X.drop n5) (el p ((t : Nat) : Int))))) rfl _ _ rfl w3.heap.size _ _ rfl rfl HO6.out.1 HLF.out HO6.out.2.size ?_; intro v7 w7 hg7; obtain ⟨A7, n7, c7, rfl, hl7, _, _, _⟩ := hg7.own.shapeN)
          have ho7 := hg7.own
          rw [← HT1.out] at ho7
          have hb7 := hg7.below HO6.out.2 HO6.out.1 (Nat.le_refl _) HO6.out.2.size
          have HO7 := Lib.hid (And.intro ho7 hb7)
          clear ho7 hb7 hg7 hl7
          go_wp2
          go_roundw
          case rel => exact ⟨t + 1, by omega, by go_num, HO7.out.1, HO7.out.2⟩
          case measure => simp only [intOf, Int.toNat_natCast]; omega
        · obtain rfl : t = n + 1 := by omega
          rename World => w4
          rw [List.take_of_length_le (by rw [HLL2.out.1]; exact Nat.le_refl _)] at ho
          obtain ⟨A4, n4, c4, rfl, hl4, hc4, hm4, hs4⟩ := ho.shapeN
          have hn4 : n4 = n + 1 := by rw [← hl4]; exact HLL2.out.1
          subst hn4
          have hgw4 : w.grownBy w4 (some c) := grownBy_trans HG3.out (grown_of_below hb _)
          have hC4 := HC3.out.below hb
          have HTK := Lib.hid (chtake_any p S b s kk zz c oo (dgG p kk f n LI z D (2 * n)) A4 (n + 1) c4 (lineG p kk f n LI z D) HLL2.out.1 HLL2.out.2 (by omega) w4 (HKK.out w4 hgw4).1 (HKK.out w4 hgw4).2.1 hSc hsc hC4 hs4)
          have HSAFE := Lib.hid (fun (W : World) (hg : w4.grownBy W (some c)) => (show Safe w4 W by obtain ⟨cv, hcv⟩ := hC4.obj; exact Safe.one hg hcv ⟨by decide, by decide, by decide⟩))
          have HT4 := Lib.hid (And.intro (HT.out.1.below hb) (And.intro (HT.out.2.below hb) ho))
          have HXY4 := Lib.hid (And.intro (HXY.out.1.below hb) (HXY.out.2.below hb))
          have HGW4 := Lib.hid hgw4
          have hb34 := Lib.hid hb
          clear ho hb hgw4 hC4 hl4 hs4
          have k1 : ¬ (((n + 1 : Nat) : Int)) < (n : Int) + 1 := by omega
          have k1' : ¬ ((n : Int) + 1) < (n : Int) + 1 := by omega
          go_wp2_with fail
          refine HTK.out.mono ?_
          rintro _ w6 ⟨⟨r6, rfl⟩, hC6, hg6, hd6⟩
          obtain ⟨D6, hD6⟩ : ∃ D6, D6 = digL p kk (3 :: (dgG p kk f n LI z D (2 * n) ++ lineG p kk f n LI z D)) := ⟨_, rfl⟩
          rw [← hD6] at hC6
          obtain ⟨dv, hdv⟩ : ∃ dv, dv = (drawnL p kk D6).getD 0 0 := ⟨_, rfl⟩
          have hdI : I64 dv := by
            obtain ⟨x, hx⟩ := digL_bounds (p := p) (k := kk) (4 :: D6) (j := 0) (by omega)
            have hx' : (drawnL p kk D6).getD 0 0 = fv x := hx
            rw [hdv, hx']
            exact i64_fv x hp2
          have hgw6 : w.grownBy w6 (some c) := grownBy_trans HGW4.out hg6
          have hg66 : w6.grownBy w6.drew (some c) := grown_of_below (below_drewN (Below.refl _ _) 1) _
          have hgd : w.grownBy w6.drew (some c) := grownBy_trans hgw6 hg66
          have hdr := chdraw_any p S b s kk zz c oo D6 w6.drew (HKK.out _ hgd).1 (HKK.out _ hgd).2.1 hSc hsc (hC6.drewN 1)
          unfold DrawIs at hdr
          rw [← hdv] at hdr
          have HDR := Lib.hid hdr
          have HS6 := Lib.hid ((HSAFE.out w6 hg6).trans (Safe.of (below_drewN (Below.refl _ _) 1) : Safe w6 w6.drew))
          have HGD := Lib.hid hgd
          have HSD := Lib.hid (fun (W : World) (hg : w6.drew.grownBy W (some c)) => (show Safe w6.drew W by obtain ⟨cv, hcv⟩ := (hC6.drewN 1).obj; exact Safe.one hg hcv ⟨by decide, by decide, by decide⟩))
          have KS : Hid (∀ W, w.grownBy W (some c) → W.cell? ⟨k, 0, none⟩ = some (.pointer (some ⟨b, 0, none⟩))) := Lib.hid fun W hg => ((HKK.out W hg).2.2.1.blk.cell 0).trans rfl
          have HCR := Lib.hid (fun W => clipR_any AT nT cT hcT W (ownR_none HT4.out.1))
          have HCI := Lib.hid (fun W => clipI_any A4 (n + 1) c4 hc4 W (own_none HT4.out.2.2))
          have HOX4 := Lib.hid (HOX.out.below hb34.out)
          have HDD := Lib.hid (And.intro hdv hD6)
          clear hdr hC6 hg6 hd6 hgw6 hg66 hgd hdv hD6
          go_upto_region 23 with (fail)
          refine wp_region_held_drew (S := fun W => W.cell? ⟨k, 0, none⟩ = some (.pointer (some ⟨b, 0, none⟩))) (by kernel_rfl) (KS.out _ HGD.out) (fun hHeld => ?_)
          refine tkH 0 ?_
          refine tkH 2 ?_
          refine tkH 4 ?_
          refine tkH 5 ?_
          refine tkH 6 ?_
          refine tkH 7 ?_
          refine tkH 8 ?_
          refine tkH 9 ?_
          refine tkH 10 ?_
          refine stH 1 (fun K hK => ?_)
          go_simp
          refine (HCR.out _).mono ?_
          rintro _ _ ⟨rfl, rfl⟩
          refine hK.out _ _ (KS.out _ HGD.out) (fun hHeld => ?_)
          clear hK K
          (try simp only [Act.put, List.setIfInBounds_toArray, List.set_cons_zero, List.set_cons_succ])
          refine stH 3 (fun K hK => ?_)
          go_simp
          refine (HCI.out _).mono ?_
          rintro _ _ ⟨rfl, rfl⟩
          refine hK.out _ _ (KS.out _ HGD.out) (fun hHeld => ?_)
          clear hK K
          (try simp only [Act.put, List.setIfInBounds_toArray, List.set_cons_zero, List.set_cons_succ])
          refine stH 11 (fun K hK => ?_)
          go_simp
          refine HDR.out.mono ?_
          rintro _ w7 ⟨rfl, hC7, hg7, hd7⟩
          have hgw7 : w.grownBy w7 (some c) := grownBy_trans HGD.out hg7
          refine hK.out _ _ (KS.out _ hgw7) (fun hHeld => ?_)
          clear hK K
          (try simp only [Act.put, List.setIfInBounds_toArray, List.set_cons_zero, List.set_cons_succ])
          have hS47 := HS6.out.trans (HSD.out w7 hg7)
          have hox7 := HOX4.out.safe hS47
          obtain ⟨A', n', c', e', _, _, _, hsx7⟩ := hox7.shapeN
          injection e' with q1 q2 q3
          subst q1 q3
          have hp7 := parts_sl hsx7 HXL.out HCX.out.2
          rw [← HAY.out] at hp7
          refine stH 12 (fun K hK => ?_)
          go_simp
          refine (between_any p S b n (by omega) AX AY cX (cX - n) (fvs (X.take n)) (fvs (X.drop n)) (by simpa [fvs] using HL1.out) (by simpa [fvs] using HL2.out) (i64_fvs _ hp2) (i64_fvs _ hp2) dv hdI w7 (HKK.out _ hgw7).1 hp7.1 hp7.2).mono ?_
          rw [els_fvs, els_fvs]
          rintro _ w8 ⟨v8, rfl, ho8, hb8⟩
          obtain ⟨A8, n8, c8, rfl, hl8, hc8, _, _⟩ := ho8.shapeN
          have hgw8 : w.grownBy w8 (some c) := grownBy_trans hgw7 (grown_of_below hb8 _)
          refine hK.out _ _ (KS.out _ hgw8) (fun hHeld => ?_)
          clear hK K
          (try simp only [Act.put, List.setIfInBounds_toArray, List.set_cons_zero, List.set_cons_succ])
          refine tkH 13 ?_
          refine tkH 14 ?_
          refine tkH 15 ?_
          refine wpAnyH_done (by kernel_rfl) ?_ _
          have hS48 := hS47.trans (Safe.of hb8)
          have hC8 := hC7.below hb8
          have hz : zN p kk f n LI z D = betw (X.take n) (X.drop n) (el p dv) := by
            rw [HDD.out.1, HDD.out.2, HXE.out]; rfl
          have hd : drawnL p kk D6 = dgN p kk f n LI z D := by rw [HDD.out.2]; rfl
          rw [hd] at hC8
          rw [← hz] at ho8 hl8
          have hn8 : n8 = n := by rw [← hl8]; simp only [fvs, List.length_map]; exact zN_length p kk f n LI z D
          have hT8 := HT4.out.1.safe hS48
          have hR8 := HT4.out.2.1.safe hS48
          have hL8 := HT4.out.2.2.safe hS48
          have hB37 : w.heap.size ≤ w3.heap.size := HG3.out.size
          have HFIN := Lib.hid (show ∀ W, KeepUp w.heap.size w8 W → TB W AT (toldG p kk f n LI z D (2 * n)) ∧ SL W A4 (lineG p kk f n LI z D) ∧ SL W A8 (fvs (zN p kk f n LI z D)) from fun W hW => by
            refine ⟨tb_own (ownsRow_keep hT8 fun g hg => hW.2 g (World.ownsRow.lt hT8 g hg).1 (World.ownsRow.lt hT8 g hg).2) (rowsOwn_keep hR8 (Nat.le_refl _) hW) (fun l hl x hx => ?_), ?_, ?_⟩
            · obtain ⟨i, _, rfl⟩ := List.mem_map.1 hl
              exact told3_i64 p f n LI z hp2 _ x hx
            · exact sl_of (Own.keep hL8 fun g hg => hW.2 g (Nat.le_trans hB37 (hL8.lt g hg).1) (hL8.lt g hg).2)
            · exact sl_of (Own.keep ho8 fun g hg => hW.2 g (Nat.le_trans hgw7.size (ho8.lt g hg).1) (ho8.lt g hg).2))
          have HAB := Lib.hid (show ∀ ad, A8 = some ad → c < ad.block from fun ad had => own_above ho8 had (Nat.lt_of_lt_of_le hc hgw7.size))
          have HFC := Lib.hid (And.intro hC8 (And.intro hgw8 (And.intro hc8 hn8)))
          have hT2 := HNT.out
          clear hHeld hS47 hox7 hsx7 hp7 hT8 hR8 hL8 ho8 hb8 hgw8 hS48 hC8 hz hd hl8 hc8 hn8 hC7 hg7 hd7 hgw7
          go_wp2
          go_ret3
          refine ⟨AT, A4, A8, c8, ?_, by rw [← HFC.out.2.2.2]; exact HFC.out.2.2.1, HFIN.out, HAB.out, HFC.out.1, HFC.out.2.1⟩
          rw [← HNT.out, HFC.out.2.2.2.symm]
          rfl
end Go.Proofs.YteceghbjjnknbaaGreat

namespace Go.Proofs.YteceghbjjnknbaaGreat
open Go.RowKit
end Go.Proofs.YteceghbjjnknbaaGreat

namespace Go.Proofs.YteceghbjjnknbaaGreat
open Go.RowKit
theorem run_appSG (t e : TypeId) (z : Value) (sz by_ : Nat) (ht : Tryz.prog.underlying t = some (.slice e)) (hinf : (Tryz.prog.info? e).map (fun i => (i.zero, i.size, i.bytes)) = some (some z, sz, by_)) (hzs : z.cells.size = sz) (hsz : 0 < sz)
    (W : World) (g : Nat) (news : List Value) (hnl : news.length = sz) (hc : ∀ j u, news[j]? = some u → W.cell? ⟨g, j, none⟩ = some u) (hone : ∀ u ∈ news, u.oneCell' = true) (base : Nat) (v : Value) (n : Nat) (xs : List Value) (hown : W.ownsRow base e sz v n xs) (h63 : n + 1 ≤ maxLen) (hby : (n + 1) * by_ ≤ 140737488355328) (hbase : base ≤ W.heap.size) (ty : TypeId) :
    ∃ v' w', (Builtin.append_ #[t, t] ty #[v, .slice (some ⟨g, 0, none⟩) 1 1]).run Tryz.prog W = .ok v' w' ∧ w'.ownsRow base e sz v' (n + 1) (xs ++ news) ∧ W.grownBy w' v.ownBlock ∧ (v'.ownBlock = v.ownBlock ∨ ∃ k, v'.ownBlock = some k ∧ W.heap.size ≤ k) := by
  obtain ⟨i0, hi, hz0, hz1, hz2⟩ := info_parts hinf
  obtain ⟨v', w', hrun, h2, h3, _, h5⟩ := run_append_own_at (P := Tryz.prog) W base t ty e i0 _ sz by_ ht hi hz0 hz1 hz2 hzs hsz
    v n xs hown ⟨g, 0, none⟩ 1 1 news (by rw [hnl, Nat.one_mul]) (by
      intro j u hj
      have e : (⟨g, 0, none⟩ : Addr).add j = ⟨g, j, none⟩ := by
        unfold Addr.add
        split
        · rename_i h0; subst h0; rfl
        · simp
      rw [e]
      exact hc j u hj) hone h63 hby hbase
  refine ⟨v', w', hrun, h2, h3, ?_⟩
  rcases h5 with h | h
  · exact .inl h
  · exact .inr ⟨_, h, Nat.le_refl _⟩
theorem step_appSG {ops : Array Oper} {o : Oper} {a : Act} {K : Act → World → Prop} {Q : Exit → Act → World → Prop} {E : Prop} (t e : TypeId) (z : Value) (sz by_ : Nat) (ht : Tryz.prog.underlying t = some (.slice e)) (hinf : (Tryz.prog.info? e).map (fun i => (i.zero, i.size, i.bytes)) = some (some z, sz, by_)) (hzs : z.cells.size = sz) (hsz : 0 < sz)
    (W : World) (g : Nat) (news : List Value) (hnl : news.length = sz) (hone : ∀ u ∈ news, u.oneCell' = true) (hgd : o.guard = none) (s x : Operand) (ho : o.op = .call { callee := .builtin .append, args := #[s, x], argTypes := #[t, t] })
    (base : Nat) (v : Value) (n : Nat) (xs : List Value) (hs : a.eval s = v) (hx : a.eval x = .slice (some ⟨g, 0, none⟩) 1 1) (hc : ∀ j u, news[j]? = some u → W.cell? ⟨g, j, none⟩ = some u) (hown : W.ownsRow base e sz v n xs) (h63 : n + 1 ≤ maxLen) (hby : (n + 1) * by_ ≤ 140737488355328) (hbase : base ≤ W.heap.size)
    (h : ∀ v' w', w'.ownsRow base e sz v' (n + 1) (xs ++ news) → W.grownBy w' v.ownBlock → (v'.ownBlock = v.ownBlock ∨ ∃ k, v'.ownBlock = some k ∧ W.heap.size ≤ k) → K (a.put o.dst v') w') :
    if Region.wanted o (yielded ops a.tmps) = true then Oper.wp Tryz.prog o a W K Q else E := by
  have hw : Region.wanted o (yielded ops a.tmps) = true := by simp [Region.wanted, hgd]
  rw [if_pos hw]
  obtain ⟨v', w', hrun, h1, h2, h3⟩ := run_appSG t e z sz by_ ht hinf hzs hsz W g news hnl hc hone base v n xs hown h63 hby hbase o.type
  unfold Oper.wp execOp
  simp only [ho, resolve, invoke, builtin, Sem.run_bind, Sem.run_pure, Result.andThen_ok, List.map_toArray, List.map_cons, List.map_nil, hs, hx, hrun]
  exact h v' w' h1 h2 h3
theorem bz0 (w : World) : Below w.heap.size w w.drew := below_drewN (Below.refl _ _) 1
theorem bz1 (w : World) (o : Obj) : Below w.heap.size w (w.drew.alloc o) := (bz0 w).alloc (Nat.le_refl _) _
theorem bz2 (w : World) (o o' : Obj) : Below w.heap.size w ((w.drew.alloc o).alloc o') := (bz1 w o).alloc (bz1 w o).size _
theorem newc1 (W : World) (u : Value) (t : TypeId) (g : Nat) (hg : g = W.heap.size) : ∀ j v, ([u] : List Value)[j]? = some v → (W.alloc (.cells #[u] t)).cell? ⟨g, j, none⟩ = some v := fun j v hj => by
  subst hg
  rw [(Blk.new W t #[u]).cell j]
  simpa using hj
theorem newc2 (W : World) (u : Value) (t : TypeId) (o : Obj) (g : Nat) (hg : g = W.heap.size) : ∀ j v, ([u] : List Value)[j]? = some v → ((W.alloc (.cells #[u] t)).alloc o).cell? ⟨g, j, none⟩ = some v := fun j v hj => by
  subst hg
  rw [((Blk.new W t #[u]).alloc o).cell j]
  simpa using hj
theorem row_form {w : World} {base : Nat} {e : TypeId} {sz n : Nat} {v : Value} {xs : List Value} (h : w.ownsRow base e sz v n xs) : ∃ A c, v = .slice A n c := by
  rcases h.2 with ⟨e1, rfl⟩ | ⟨g, cap, cur, e1, _⟩
  · exact ⟨_, _, e1⟩
  · exact ⟨_, _, e1⟩
end Go.Proofs.YteceghbjjnknbaaGreat

namespace Go.Proofs.YteceghbjjnknbaaGreat
open Go.RowKit Zp
section
variable (p kk v : Nat) [NeZero p] (inp : List Int) (Ls : List (List GateR)) (z0 : List (Fin p)) (D0 : List Int)
def lvT (t : Nat) : Nat := Ls.length - 1 - t
def LIt (t : Nat) : List GateI := (Ls.getD (lvT Ls t) []).map gI
def lyH : Nat → List (Fin p) × List Int
  | 0 => (z0, D0)
  | t + 1 => (zN p kk (co (lvE p inp Ls (lvT Ls t))) (nvR Ls v (lvT Ls t)) (LIt Ls t) (lyH t).1 (lyH t).2, dgN p kk (co (lvE p inp Ls (lvT Ls t))) (nvR Ls v (lvT Ls t)) (LIt Ls t) (lyH t).1 (lyH t).2)
def rdH (t : Nat) : List (List Int) := toldG p kk (co (lvE p inp Ls (lvT Ls t))) (nvR Ls v (lvT Ls t)) (LIt Ls t) (lyH p kk v inp Ls z0 D0 t).1 (lyH p kk v inp Ls z0 D0 t).2 (2 * nvR Ls v (lvT Ls t))
def lnH (t : Nat) : List Int := lineG p kk (co (lvE p inp Ls (lvT Ls t))) (nvR Ls v (lvT Ls t)) (LIt Ls t) (lyH p kk v inp Ls z0 D0 t).1 (lyH p kk v inp Ls z0 D0 t).2
theorem lyH_length (hz : z0.length = nvR Ls v Ls.length) (t : Nat) (ht : t ≤ Ls.length) : (lyH p kk v inp Ls z0 D0 t).1.length = nvR Ls v (Ls.length - t) := by
  cases t with
  | zero => exact hz
  | succ t =>
    show (zN _ _ _ _ _ _ _).length = _
    rw [zN_length, lvT, show Ls.length - 1 - t = Ls.length - (t + 1) by omega]
end
theorem clipT_any (A : Option Addr) (n c : Nat) (hn : n ≤ c) (w : World) (hc : A = none → c = 0) :
    Calls Tryz.prog 25 #[.slice A n c] w fun e w' => e = .returned (.slice A n n) ∧ w = w' := by
  cases A with
  | none =>
    obtain rfl := hc rfl
    obtain rfl : n = 0 := by omega
    go_enter Tryz.func25, Tryz.ntmps25
    go_wp2
    go_ret
    exact ⟨rfl, rfl⟩
  | some ad =>
    have t1 : (n : Int) ≤ (c : Int) := by omega
    clear hc
    go_enter Tryz.func25, Tryz.ntmps25
    go_wp2
    go_ret
    exact ⟨rfl, rfl⟩
theorem info_tabG : (Tryz.prog.info? 36).map (fun i => (i.zero, i.size, i.bytes)) = some (some (.slice none 0 0), 1, 24) := by kernel_rfl
def Cont (wr : World) (c o t : Nat) (v1 v2 : Value) (xs us : List Value) (nt : Nat → Nat) (rd : Nat → List (List Int)) (ln : Nat → List Int) : Prop :=
  ∀ i, i < t → ∃ (A A' : Option Addr) (B E : Nat), xs[i]? = some (.slice A (2 * nt i) (2 * nt i)) ∧ us[i]? = some (.slice A' (nt i + 1) (nt i + 1)) ∧ c < B ∧ o < B ∧ B ≤ E ∧ E ≤ wr.heap.size ∧
    (∀ g, v1.ownBlock = some g → g < B ∨ E ≤ g) ∧ (∀ g, v2.ownBlock = some g → g < B ∨ E ≤ g) ∧
    ∀ W : World, E ≤ W.heap.size → (∀ x, B ≤ x → x < E → W.heap[x]? = wr.heap[x]?) → TB W A (rd i) ∧ SL W A' (ln i)
theorem Cont.nil (wr : World) (c o : Nat) (v1 v2 : Value) (nt : Nat → Nat) (rd : Nat → List (List Int)) (ln : Nat → List Int) : Cont wr c o 0 v1 v2 [] [] nt rd ln := fun i hi => absurd hi (Nat.not_lt_zero _)
theorem Cont.step {wr w2 : World} {c o t : Nat} {v1 v2 : Value} {xs us : List Value} {nt : Nat → Nat} {rd : Nat → List (List Int)} {ln : Nat → List Int} (h : Cont wr c o t v1 v2 xs us nt rd ln) {row : Option Nat} (hg : wr.grownBy w2 row) (hr : row = none ∨ row = some c ∨ row = some o ∨ row = v1.ownBlock ∨ row = v2.ownBlock) : Cont w2 c o t v1 v2 xs us nt rd ln := fun i hi => by
  obtain ⟨A, A', B, E, h1, h2, h3, h4, hBE, h5, h6, h7, h8⟩ := h i hi
  refine ⟨A, A', B, E, h1, h2, h3, h4, hBE, Nat.le_trans h5 hg.size, h6, h7, fun W hW hk => h8 W hW fun x hx hx2 => ?_⟩
  rw [hk x hx hx2]
  refine hg.block x (by omega) fun e => ?_
  rcases hr with r | r | r | r | r
  · rw [r] at e; cases e
  · rw [r] at e; injection e with e; omega
  · rw [r] at e; injection e with e; omega
  · rw [r] at e; rcases h6 x e.symm with q | q <;> omega
  · rw [r] at e; rcases h7 x e.symm with q | q <;> omega
theorem Cont.app1 {wr w2 : World} {c o t : Nat} {v1 v1' v2 : Value} {xs us : List Value} {nt : Nat → Nat} {rd : Nat → List (List Int)} {ln : Nat → List Int} (h : Cont wr c o t v1 v2 xs us nt rd ln) (hg : wr.grownBy w2 v1.ownBlock) (hx : v1'.ownBlock = v1.ownBlock ∨ ∃ k, v1'.ownBlock = some k ∧ wr.heap.size ≤ k) : Cont w2 c o t v1' v2 xs us nt rd ln := fun i hi => by
  obtain ⟨A, A', B, E, h1, h2, h3, h4, hBE, h5, h6, h7, h8⟩ := h i hi
  obtain ⟨C, C', F, G, g1, g2, g3, g4, gBE, g5, g6, g7, g8⟩ := h.step hg (.inr (.inr (.inr (.inl rfl)))) i hi
  refine ⟨A, A', B, E, h1, h2, h3, h4, hBE, Nat.le_trans h5 hg.size, fun g hgv => ?_, h7, fun W hW hk => h8 W hW fun x hx hx2 => ?_⟩
  · rcases hx with e | ⟨k, e, hk⟩
    · rw [e] at hgv; exact h6 g hgv
    · rw [e] at hgv; injection hgv with hgv; omega
  · rw [hk x hx hx2]
    exact hg.block x (by omega) fun e => by rcases h6 x e.symm with q | q <;> omega
theorem Cont.app2 {wr w2 : World} {c o t : Nat} {v1 v2 v2' : Value} {xs us : List Value} {nt : Nat → Nat} {rd : Nat → List (List Int)} {ln : Nat → List Int} (h : Cont wr c o t v1 v2 xs us nt rd ln) (hg : wr.grownBy w2 v2.ownBlock) (hx : v2'.ownBlock = v2.ownBlock ∨ ∃ k, v2'.ownBlock = some k ∧ wr.heap.size ≤ k) : Cont w2 c o t v1 v2' xs us nt rd ln := fun i hi => by
  obtain ⟨A, A', B, E, h1, h2, h3, h4, hBE, h5, h6, h7, h8⟩ := h i hi
  refine ⟨A, A', B, E, h1, h2, h3, h4, hBE, Nat.le_trans h5 hg.size, h6, fun g hgv => ?_, fun W hW hk => h8 W hW fun x hx hx2 => ?_⟩
  · rcases hx with e | ⟨k, e, hk⟩
    · rw [e] at hgv; exact h7 g hgv
    · rw [e] at hgv; injection hgv with hgv; omega
  · rw [hk x hx hx2]
    exact hg.block x (by omega) fun e => by rcases h7 x e.symm with q | q <;> omega
theorem Cont.snoc {wr : World} {c o t : Nat} {v1 v2 : Value} {xs us : List Value} {nt : Nat → Nat} {rd : Nat → List (List Int)} {ln : Nat → List Int} (h : Cont wr c o t v1 v2 xs us nt rd ln) (hx : xs.length = t) (hu : us.length = t) {A A' : Option Addr} {B : Nat} (hc : c < B) (ho : o < B) (hB : B ≤ wr.heap.size) (h1 : ∀ g, v1.ownBlock = some g → g < B) (h2 : ∀ g, v2.ownBlock = some g → g < B)
    (hk : ∀ W, KeepUp B wr W → TB W A (rd t) ∧ SL W A' (ln t)) : Cont wr c o (t + 1) v1 v2 (xs ++ [.slice A (2 * nt t) (2 * nt t)]) (us ++ [.slice A' (nt t + 1) (nt t + 1)]) nt rd ln := fun i hi => by
  by_cases e : i < t
  · obtain ⟨A, A', B, E, h1, h2, h⟩ := h i e
    exact ⟨A, A', B, E, by rw [List.getElem?_append_left (by omega)]; exact h1, by rw [List.getElem?_append_left (by omega)]; exact h2, h⟩
  · obtain rfl : i = t := by omega
    exact ⟨A, A', B, wr.heap.size, by rw [List.getElem?_append_right (by omega), hx, Nat.sub_self]; rfl, by rw [List.getElem?_append_right (by omega), hu, Nat.sub_self]; rfl, hc, ho, hB, Nat.le_refl _, fun g hg => .inl (h1 g hg), fun g hg => .inl (h2 g hg), fun W hW hkk => hk W ⟨hW, hkk⟩⟩
structure OutS (w : World) (c o base : Nat) (v1 v2 : Value) (t : Nat) (xs us : List Value) (nt : Nat → Nat) (rd : Nat → List (List Int)) (ln : Nat → List Int) : Prop where
  blk : Blk w o 41 #[v1, v2]
  own1 : w.ownsRow base 36 1 v1 t xs
  own2 : w.ownsRow base 25 1 v2 t us
  cont : Cont w c o t v1 v2 xs us nt rd ln
section
variable {w w' wa w3 wb w4 : World} {c o base t : Nat} {v1 v2 v1' v2' : Value} {xs us : List Value} {nt : Nat → Nat} {rd : Nat → List (List Int)} {ln : Nat → List Int}
theorem OutS.below (h : OutS w c o base v1 v2 t xs us nt rd ln) (hb : Below w.heap.size w w') : OutS w' c o base v1 v2 t xs us nt rd ln :=
  ⟨h.blk.below hb h.blk.lt, ownsRow_keep h.own1 fun g hg => hb.block g (World.ownsRow.lt h.own1 g hg).2, ownsRow_keep h.own2 fun g hg => hb.block g (World.ownsRow.lt h.own2 g hg).2, h.cont.step (grown_of_below hb none) (.inl rfl)⟩
theorem OutS.chain (h : OutS w c o base v1 v2 t xs us nt rd ln) (hg : w.grownBy w' (some c)) (hco : c < o) (hcb : c < base) : OutS w' c o base v1 v2 t xs us nt rd ln :=
  ⟨h.blk.grown hg (by intro e; injection e with e; omega), ownsRow_keep h.own1 fun g hgv => hg.block g (World.ownsRow.lt h.own1 g hgv).2 (by intro e; injection e with e; have := (World.ownsRow.lt h.own1 g hgv).1; omega), ownsRow_keep h.own2 fun g hgv => hg.block g (World.ownsRow.lt h.own2 g hgv).2 (by intro e; injection e with e; have := (World.ownsRow.lt h.own2 g hgv).1; omega), h.cont.step hg (.inr (.inl rfl))⟩
theorem OutS.len (h : OutS w c o base v1 v2 t xs us nt rd ln) : xs.length = t ∧ us.length = t := ⟨by have := h.own1.1; omega, by have := h.own2.1; omega⟩
theorem OutS.o1 (h : OutS w c o base v1 v2 t xs us nt rd ln) (p2 : w.grownBy w' v1.ownBlock) : Blk w' o 41 #[v1, v2] ∧ w'.ownsRow base 25 1 v2 t us := ⟨row_far h.own1 p2 h.blk (by decide), row_stay h.own1 p2 h.own2 (by decide)⟩
theorem OutS.two (h : OutS w c o base v1 v2 t xs us nt rd ln) {A A' : Option Addr} {B : Nat} (hc : c < B) (ho : o < B) (hB : B ≤ w.heap.size) (h1 : ∀ g, v1.ownBlock = some g → g < B) (h2 : ∀ g, v2.ownBlock = some g → g < B) (hk : ∀ W, KeepUp B w W → TB W A (rd t) ∧ SL W A' (ln t))
    (hb : Below w.heap.size w wa) (p1 : w3.ownsRow base 36 1 v1' (t + 1) (xs ++ [.slice A (2 * nt t) (2 * nt t)])) (p2 : wa.grownBy w3 v1.ownBlock) (p3 : v1'.ownBlock = v1.ownBlock ∨ ∃ k, v1'.ownBlock = some k ∧ wa.heap.size ≤ k)
    (hb' : Below w3.heap.size w3 wb) (q1 : w4.ownsRow base 25 1 v2' (t + 1) (us ++ [.slice A' (nt t + 1) (nt t + 1)])) (q2 : wb.grownBy w4 v2.ownBlock) (q3 : v2'.ownBlock = v2.ownBlock ∨ ∃ k, v2'.ownBlock = some k ∧ wb.heap.size ≤ k) :
    OutS ((w4.setCell ⟨o, 0, none⟩ v1').setCell ⟨o, 1, none⟩ v2') c o base v1' v2' (t + 1) (xs ++ [.slice A (2 * nt t) (2 * nt t)]) (us ++ [.slice A' (nt t + 1) (nt t + 1)]) nt rd ln := by
  have hl := h.len
  have ha := h.below hb
  have hC := h.cont.snoc hl.1 hl.2 hc ho hB h1 h2 hk
  have hC1 := (hC.step (grown_of_below hb none) (.inl rfl)).app1 p2 p3
  have b3 := (ha.o1 p2).1
  have o3 := (ha.o1 p2).2
  have bb := b3.below hb' b3.lt
  have ob : wb.ownsRow base 25 1 v2 t us := ownsRow_keep o3 fun g hg => hb'.block g (World.ownsRow.lt o3 g hg).2
  have p1b : wb.ownsRow base 36 1 v1' (t + 1) (xs ++ [.slice A (2 * nt t) (2 * nt t)]) := ownsRow_keep p1 fun g hg => hb'.block g (World.ownsRow.lt p1 g hg).2
  have b4 := row_far ob q2 bb (by decide)
  have p14 := row_stay ob q2 p1b (by decide)
  have hC2 := (hC1.step (grown_of_below hb' none) (.inl rfl)).app2 q2 q3
  have b5 := b4.set_ 0 v1'
  have b6 := b5.set_ 1 v2'
  have g1 : w4.grownBy (w4.setCell ⟨o, 0, none⟩ v1') (some o) := blk_grown
  have g2 : (w4.setCell ⟨o, 0, none⟩ v1').grownBy ((w4.setCell ⟨o, 0, none⟩ v1').setCell ⟨o, 1, none⟩ v2') (some o) := blk_grown
  have g12 := grownBy_trans g1 g2
  have keep : ∀ {e : TypeId} {v : Value} {n : Nat} {ys : List Value}, w4.ownsRow base e 1 v n ys → 41 ≠ e → ((w4.setCell ⟨o, 0, none⟩ v1').setCell ⟨o, 1, none⟩ v2').ownsRow base e 1 v n ys := fun h he => ownsRow_keep h fun g hg => by
    obtain ⟨cs, hcs⟩ := row_blk h hg
    exact g12.block g hcs.lt (fun e' => by injection e' with e'; exact Blk.ne_ b4 hcs he e'.symm)
  exact ⟨b6, keep p14 (by decide), keep q1 (by decide), (hC2.step g12 (.inr (.inr (.inl rfl))))⟩
end
end Go.Proofs.YteceghbjjnknbaaGreat

namespace Go.Proofs.YteceghbjjnknbaaGreat
open Go.RowKit Zp
def VT (w : World) (g : Nat) (rows : List (List Int)) : Prop := ∃ cs, Blk w g 25 cs ∧ ∀ i (h : i < rows.length), ∃ (A : Option Addr) (n c : Nat), cs[i]? = some (.slice A n c) ∧ rows[i].length = n ∧ n < 9223372036854775808 ∧ n ≤ c ∧ (A = none → c = 0) ∧ (∀ ad, A = some ad → ad.block ≠ g) ∧ SL w A rows[i] ∧ ∀ x ∈ rows[i], I64 x
theorem addG (g i : Nat) : (⟨g, 0, none⟩ : Addr).add i = ⟨g, i, none⟩ := by
  by_cases h : i = 0
  · subst h; rfl
  · simp [Addr.add, h]
theorem VT.tb {w : World} {g : Nat} {rows : List (List Int)} (h : VT w g rows) : TB w (some ⟨g, 0, none⟩) rows := fun i hi => by
  obtain ⟨cs, hB, hr⟩ := h
  obtain ⟨A, n, c, h1, h2, h3, _, _, _, h7, h8⟩ := hr i hi
  have e : (⟨g, 0, none⟩ : Addr).add i = ⟨g, i, none⟩ := addG g i
  exact ⟨⟨g, 0, none⟩, A, n, c, rfl, by rw [block_of_add]; exact hB.lt, by rw [e, hB.cell, h1], h2, h3, h7, h8⟩
theorem VT.set {w : World} {g : Nat} {rows : List (List Int)} {i : Nat} {A : Option Addr} {n c c' : Nat} (h : VT w g rows) (hi : i < rows.length) (hc : w.cell? ⟨g, i, none⟩ = some (.slice A n c)) (h1 : n ≤ c') (h2 : A = none → c' = 0) : VT (w.setCell ⟨g, i, none⟩ (.slice A n c')) g rows := by
  obtain ⟨cs, hB, hr⟩ := h
  refine ⟨_, hB.set_ i _, fun j hj => ?_⟩
  obtain ⟨A1, n1, c1, e1, e2, e3, e4, e5, e6, e7, e8⟩ := hr j hj
  have hsl : SL (w.setCell ⟨g, i, none⟩ (.slice A n c')) A1 rows[j] := by
    refine e7.farO (blk_grown (g := g)) (fun ad had _ => e6 ad had)
  by_cases hji : i = j
  · subst hji
    rw [hB.cell, e1] at hc
    injection hc with hc
    injection hc with q1 q2 q3
    subst q1 q2
    have hsz : i < cs.size := by
      rcases Nat.lt_or_ge i cs.size with h | h
      · exact h
      · rw [Array.getElem?_eq_none h] at e1; cases e1
    exact ⟨A1, n1, c', by rw [Array.getElem?_setIfInBounds_self, if_pos hsz], e2, e3, h1, h2, e6, hsl, e8⟩
  · exact ⟨A1, n1, c1, by rw [Array.getElem?_setIfInBounds_ne hji]; exact e1, e2, e3, e4, e5, e6, hsl, e8⟩
theorem VT.of {w : World} {base base2 : Nat} {A : Option Addr} {n c : Nat} {us : List Value} {rows : List (List Int)} (h : OwnR w base (.slice A n c) us) (hr : RowsOwn w base2 us rows) (hi : ∀ l ∈ rows, ∀ x ∈ l, I64 x) (h1 : 1 ≤ rows.length) : ∃ g, A = some ⟨g, 0, none⟩ ∧ n = rows.length ∧ base ≤ g ∧ n ≤ c ∧ VT w g rows := by
  rcases h.2 with ⟨e, h0⟩ | ⟨g, cap, cur, e, hb, hh, hcap, hmax, hsz, htk⟩
  · have := hr.1; omega
  · injection e with e1 e2 e3
    subst e1 e3
    refine ⟨g, rfl, by rw [e2, hr.1], hb, by omega, cur, hh, fun i hir => ?_⟩
    have hiu : i < us.length := by rw [hr.1]; exact hir
    have ho := hr.2 i hiu hir
    obtain ⟨A1, n1, c1, e4, e5, e6, e7, e8⟩ := ho.shapeN
    rw [e4] at ho
    have hm : maxLen < 9223372036854775808 := by simp [maxLen]
    refine ⟨A1, n1, c1, ?_, e5, by omega, e6, own_none ho, fun ad had hg => ?_, e8, hi _ (List.getElem_mem hir)⟩
    · have e9 : us[i]? = some (.slice A1 n1 c1) := by rw [List.getElem?_eq_getElem hiu, e4]
      have e10 : (List.take (us.length * 1) cur.toList)[i]? = some (.slice A1 n1 c1) := by rw [htk]; exact e9
      rw [List.getElem?_take, if_pos (by omega), Array.getElem?_toList] at e10
      exact e10
    · subst had
      rcases ho.2 with ⟨e, _⟩ | ⟨g', cap', cur', e, _, hh', _⟩
      · cases e
      · injection e with e _ _
        injection e with e
        subst e
        dsimp only at hg
        subst hg
        rw [hh] at hh'
        injection hh' with hh'
        injection hh' with _ ht
        exact absurd ht (by decide)
def ValsIs (p : Nat) [NeZero p] (inp : List Int) (Ls : List (List GateR)) (w : World) (e : Ending) (w' : World) : Prop :=
  ∃ (g c : Nat), e = .returned (.tuple #[.slice (some ⟨g, 0, none⟩) (Ls.length + 1) c, .nilIface]) ∧ TB w' (some ⟨g, 0, none⟩) (lvR p inp Ls (Ls.length + 1)) ∧ Below w.heap.size w w'
abbrev NoVals (e : Ending) : Prop := ∃ j : Int, e = .returned (.tuple #[.slice none 0 0, .iface 71 (vi j)])
set_option maxRecDepth 100000 in
set_option maxHeartbeats 4000000 in
theorem values_no (b : Nat) (wide : Int) (AL : Option Addr) (nL cL : Nat) (A : Option Addr) (n c : Nat) (w : World)
    (H : ∀ W, Below w.heap.size w W → Calls Tryz.prog 21 #[.pointer (some ⟨b, 0, none⟩), .agg #[vi wide, .slice AL nL cL], .slice A n c] W fun e w' => NoWk e ∧ Below W.heap.size W w') :
    Calls Tryz.prog 8 #[.pointer (some ⟨b, 0, none⟩), .agg #[vi wide, .slice AL nL cL], .slice A n c] w fun e w' => NoVals e ∧ Below w.heap.size w w' := by
  have hb0 : Below w.heap.size w (w.alloc (.cells #[vi wide, .slice AL nL cL] 24)) := (Below.refl _ _).alloc (Nat.le_refl _) _
  have HB0 := Lib.hid hb0
  have HW := Lib.hid (H _ hb0)
  clear H hb0
  go_enter Tryz.func8, Tryz.ntmps8
  go_wp2_with fail
  refine HW.out.mono ?_
  rintro _ w2 ⟨⟨j, rfl⟩, hb2⟩
  have hb := HB0.out.trans (hb2.mono HB0.out.size)
  go_wp2
  go_ret2
  exact ⟨⟨j, rfl⟩, hb⟩
set_option maxRecDepth 100000 in
set_option maxHeartbeats 8000000 in
theorem values_yes (p S b : Nat) [NeZero p] (v : Nat) (AL : Option Addr) (nL cL : Nat) (Ls : List (List GateR)) (hLn : Ls.length = nL) (hyes : CirR (v : Int) Ls) (A : Option Addr) (n c : Nat) (inp : List Int) (hin : inp.length = n) (hI : ∀ x ∈ inp, I64 x) (hne : n = 2 ^ v) (w : World) (F : Fld w S b p) (hLT : LT w AL Ls) (hs : SL w A inp) :
    Calls Tryz.prog 8 #[.pointer (some ⟨b, 0, none⟩), .agg #[vi (v : Int), .slice AL nL cL], .slice A n c] w (ValsIs p inp Ls w) := by
  have hp2 := F.max
  have h8 := hyes.n8
  have hb0 : Below w.heap.size w (w.alloc (.cells #[vi (v : Int), .slice AL nL cL] 24)) := (Below.refl _ _).alloc (Nat.le_refl _) _
  have HB0 := Lib.hid hb0
  have HW := Lib.hid (newwalker_yes p S b v AL nL cL Ls hLn (by omega) hyes A n c inp hin hI hne _ (F.below hb0 F.le) (hLT.below hb0) (hs.below hb0))
  obtain ⟨rows, hrows⟩ : ∃ rows, rows = lvR p inp Ls (Ls.length + 1) := ⟨_, rfl⟩
  have hrl : rows.length = Ls.length + 1 := by rw [hrows, lvR_len]
  have hri : ∀ l ∈ rows, ∀ x ∈ l, I64 x := fun l hl x hx => by
    obtain ⟨j, hj, rfl⟩ := List.mem_iff_getElem.1 hl
    subst hrows
    rw [lvR_at] at hx
    exact i64_fvs _ hp2 x hx
  have HRL := Lib.hid hrl
  have HRI := Lib.hid hri
  have HROWS := Lib.hid hrows
  have H8 := Lib.hid h8
  clear hLT hyes hs hb0 F hrows hrl hri hne hin hI hLn h8
  go_enter Tryz.func8, Tryz.ntmps8
  go_wp2_with fail
  refine HW.out.mono ?_
  rintro _ w2 ⟨k, AV, nV, cV, us, rfl, hk, hB, hO, hR, hb2⟩
  rw [← HROWS.out] at hR
  have hb := HB0.out.trans (hb2.mono HB0.out.size)
  have hkw : w.heap.size ≤ k := Nat.le_trans HB0.out.size hk
  obtain ⟨g, rfl, hnV, hgb, hncV, hVT⟩ := VT.of hO hR HRI.out (by rw [HRL.out]; omega)
  have hgw : w.heap.size ≤ g := Nat.le_trans HB0.out.size hgb
  have hgk : k ≠ g := by
    obtain ⟨cs, hcs, _⟩ := hVT
    exact hB.ne_ hcs (by decide)
  have HBB := Lib.hid hB
  have HVT := Lib.hid hVT
  have HBW := Lib.hid hb
  have c3 := (hB.cell 3).trans rfl
  have HNV := Lib.hid hnV
  have hnV9 : nV ≤ 9 := by rw [hnV, HRL.out]; have := H8.out; omega
  clear hO hR hb2 HW HB0 hB hVT hb hk hgb hnV
  go_wp2
  go_loopw [26] (fun i wr => ∃ t : Nat, t ≤ nV ∧ i = vi t ∧ Blk wr k 79 #[.pointer (some ⟨b, 0, none⟩), vi (v : Int), .slice AL nL cL, .slice (some ⟨g, 0, none⟩) nV cV] ∧ VT wr g rows ∧ Below w.heap.size w wr) (fun i _ => nV - (intOf i).toNat)
  case atStart => exact ⟨0, Nat.zero_le _, rfl, HBB.out, HVT.out, HBW.out⟩
  case round =>
    obtain ⟨t, ht, rfl, hB, hVT, hb⟩ := hrel
    have e3 := (hB.cell 3).trans (show _ = some (.slice (some ⟨g, 0, none⟩) nV cV) from rfl)
    by_cases htn : t < nV
    · have htr : t < rows.length := by rw [← HNV.out]; exact htn
      obtain ⟨cs, hG, hall⟩ := hVT
      obtain ⟨A1, n1, c1, q1, q2, q3, q4, q5, q6, q7, q8⟩ := hall t htr
      have hct := (hG.cell t).trans q1
      have zt := hG.frozen t
      have HSET := Lib.hid (VT.set (c' := n1) ⟨cs, hG, hall⟩ htr hct (Nat.le_refl _) (fun e => by have := q5 e; omega))
      have HBK := Lib.hid (hB.far (p := ⟨g, t, none⟩) hgk (.slice A1 n1 n1))
      have HBL := Lib.hid (hb.grown (blk_grown (w := wr) (g := g) (i := t) (u := .slice A1 n1 n1)) hb.size (fun j hj => by injection hj with hj; omega))
      have HCL := Lib.hid (fun W => clipI_any A1 n1 c1 q4 W q5)
      have i1 : (0 : Int) ≤ (t : Int) := by omega
      have i2 : (t : Int) < (nV : Int) := by omega
      have ea := addG g t
      clear hG hall q1 q2 q3 q4 q5 q6 q7 q8 hB hb
      have S0 := Lib.hid (show wr.drew.cell? ⟨k, 3, none⟩ = some (.slice (some ⟨g, 0, none⟩) nV cV) from e3)
      have S1 := Lib.hid (show (wr.drew.setCell ⟨g, t, none⟩ (.slice A1 n1 n1)).cell? ⟨k, 3, none⟩ = some (.slice (some ⟨g, 0, none⟩) nV cV) from (HBK.out.cell 3).trans rfl)
      go_upto_region 7 with (fail)
      refine wp_region_held_drew (S := fun W' => W'.cell? ⟨k, 3, none⟩ = some (.slice (some ⟨g, 0, none⟩) nV cV)) (by kernel_rfl) S0.out (fun hHeld => ?_)
      refine tkH 0 ?_
      refine tkH 1 ?_
      refine tkH 2 ?_
      refine tkH 3 ?_
      refine tkH 4 ?_
      refine tkH 5 ?_
      refine tkH 6 ?_
      refine tkH 7 ?_
      refine tkH 8 ?_
      refine tkH 9 ?_
      refine tkH 10 ?_
      refine stH 11 (fun K hK => ?_)
      go_simp
      refine hK.out _ _ S0.out (fun hHeld => ?_)
      clear hK K
      (try simp only [Act.put, List.setIfInBounds_toArray, List.set_cons_zero, List.set_cons_succ])
      refine stH 12 (fun K hK => ?_)
      go_simp
      refine (HCL.out _).mono ?_
      rintro _ _ ⟨rfl, rfl⟩
      refine hK.out _ _ S0.out (fun hHeld => ?_)
      clear hK K
      (try simp only [Act.put, List.setIfInBounds_toArray, List.set_cons_zero, List.set_cons_succ])
      refine tkH 13 ?_
      refine stH 14 (fun K hK => ?_)
      go_simp
      refine hK.out _ _ S1.out (fun hHeld => ?_)
      clear hK K
      (try simp only [Act.put, List.setIfInBounds_toArray, List.set_cons_zero, List.set_cons_succ])
      refine wpAnyH_done (by kernel_rfl) ?_ _
      clear hHeld
      go_wp2
      go_roundw
      case rel => exact ⟨t + 1, htn, by go_num, HBK.out, HSET.out, below_drewN HBL.out 1⟩
      case measure => simp only [intOf, Int.toNat_natCast]; omega
    · obtain rfl : t = nV := by omega
      have HF := Lib.hid (And.intro hVT hb)
      clear hVT hb
      go_wp2
      go_ret2
      have e9 : t = Ls.length + 1 := by rw [HNV.out, HRL.out]
      refine ⟨g, cV, by rw [e9]; rfl, by rw [← HROWS.out]; exact HF.out.1.tb, HF.out.2⟩
end Go.Proofs.YteceghbjjnknbaaGreat

namespace Go.Proofs.YteceghbjjnknbaaGreat
open Go.RowKit
section
variable {P : Program} {ops : Array Oper} {Q : Exit → Act → World → Prop} {md : Region.Mode} {C : World → Prop} {m : Nat}
def wpAnyM (P : Program) (md : Region.Mode) (ops : Array Oper) (Q : Exit → Act → World → Prop) (C : World → Prop) (m : Nat) : Nat → Array Bool → Act → World → Prop
  | 0, listed, a, w => Region.ready md ops listed = [] ∧ Q .normal a w
  | fuel + 1, listed, a, w =>
    (Region.ready md ops listed = [] → Q .normal a w) ∧
    ∀ i ∈ Region.ready md ops listed, wpOp P ops Q i (fun a' w' => ((listed.setIfInBounds i true).getD m false = false → C w') ∧ wpAnyM P md ops Q C m fuel (listed.setIfInBounds i true) a' w') a w
theorem wpAny_of_M : ∀ (fuel : Nat) (listed : Array Bool) (a : Act) (w : World), wpAnyM P md ops Q C m fuel listed a w → wpAny P md ops Q fuel listed a w
  | 0, _, _, _, h => h
  | fuel + 1, _, _, _, h => ⟨h.1, fun i hi => wpOp_mono (fun a' w' h' => wpAny_of_M fuel _ a' w' h'.2) (h.2 i hi)⟩
theorem wpAnyM_first {i : Nat} {oi : Oper} {v : Value} (hi : ops[i]? = some oi) (hsel : ∀ (j : Nat) (o : Oper) cs b, ops[j]? = some o → o.op ≠ .select cs b)
    (hQ : ∀ c a w, Q (.panic c) (a.put oi.dst v) w → Q (.panic c) a w) (him : i ≠ m) (hm : ∀ om, ops[m]? = some om → ∃ e ∈ om.after, Region.binds md e = true ∧ e.on = i) :
    ∀ (fuel : Nat) (listed : Array Bool) (a : Act) (w : World),
      (∀ j oj, ops[j]? = some oj → j ≠ i → listed.getD j true = false → (∀ e ∈ oj.after, Region.binds md e = true → e.on ≠ i) → oi.apart ops oj = true) →
      listed.getD m false = false → i ∈ Region.ready md ops listed → YieldsIf P ops C oi v a → C w →
      wpAnyM P md ops Q C m fuel (listed.setIfInBounds i true) (a.put oi.dst v) w → wpAnyM P md ops Q C m (fuel + 1) listed a w := by
  intro fuel
  induction fuel with
  | zero =>
    intro listed a w _ hlm hr hy hS H
    refine ⟨fun h => (by rw [h] at hr; cases hr), fun j hj => ?_⟩
    by_cases hji : j = i
    · subst hji; exact hy.wpOp hi hS ⟨fun _ => hS, H⟩
    · have := ready_mono hj hji
      rw [H.1] at this
      cases this
  | succ fuel ih =>
    intro listed a w hfree hlm hr hy hS H
    refine ⟨fun h => (by rw [h] at hr; cases hr), fun j hj => ?_⟩
    by_cases hji : j = i
    · subst hji; exact hy.wpOp hi hS ⟨fun _ => hS, H⟩
    · have h1 := H.2 j (ready_mono hj hji)
      obtain ⟨hjun, oj, hoj, hall⟩ := mem_ready.1 hj
      have hnot : ∀ e ∈ oj.after, Region.binds md e = true → e.on ≠ i := fun e he hb heq => by
        have h1 := hall e he hb
        have h0 := (mem_ready.1 hr).1
        rw [heq] at h1
        rcases Nat.lt_or_ge i listed.size with h' | h'
        · simp [h'] at h0 h1; rw [h0] at h1; cases h1
        · simp [Array.getElem?_eq_none h'] at h1
      have hjm : j ≠ m := fun e => by
        subst e
        obtain ⟨e, he, hb, hon⟩ := hm oj hoj
        exact hnot e he hb hon
      have h2 := wpOp_putIf hoj (hfree j oj hoj hji hjun hnot) (fun cs b => hsel i oi cs b hi) (fun cs b => hsel j oj cs b hoj) hQ hy h1
      have hfree' : ∀ k ok, ops[k]? = some ok → k ≠ i → (listed.setIfInBounds j true).getD k true = false →
          (∀ e ∈ ok.after, Region.binds md e = true → e.on ≠ i) → oi.apart ops ok = true := fun k ok hk hki hun hno => by
        refine hfree k ok hk hki ?_ hno
        by_cases hjk : j = k
        · subst hjk; exact hjun
        · rw [getD_set_ne true hjk] at hun; exact hun
      have hlm' : (listed.setIfInBounds j true).getD m false = false := by rw [getD_set_ne false hjm]; exact hlm
      have hlm2 : ((listed.setIfInBounds i true).setIfInBounds j true).getD m false = false := by rw [getD_set_ne false hjm, getD_set_ne false him]; exact hlm
      refine wpOp_mono (fun a' w' h3 => ⟨fun _ => h3.2.1 hlm2, ih (listed.setIfInBounds j true) a' w' hfree' hlm' (ready_mono hr (Ne.symm hji)) h3.1 (h3.2.1 hlm2) ?_⟩) h2
      rw [Array.setIfInBounds_comm _ _ hji]
      exact h3.2.2
theorem wpAnyM_firstT {i : Nat} {oi : Oper} {v : Value} (hi : ops[i]? = some oi) (hsel : ∀ (j : Nat) (o : Oper) cs b, ops[j]? = some o → o.op ≠ .select cs b)
    (hQ : ∀ c a w, Q (.panic c) (a.put oi.dst v) w → Q (.panic c) a w) (him : i ≠ m) :
    ∀ (fuel : Nat) (listed : Array Bool) (a : Act) (w : World),
      (∀ j oj, ops[j]? = some oj → j ≠ i → listed.getD j true = false → (∀ e ∈ oj.after, Region.binds md e = true → e.on ≠ i) → oi.apart ops oj = true) →
      i ∈ Region.ready md ops listed → YieldsIf P ops (fun _ => True) oi v a → (listed.getD m false = false → C w) →
      wpAnyM P md ops Q C m fuel (listed.setIfInBounds i true) (a.put oi.dst v) w → wpAnyM P md ops Q C m (fuel + 1) listed a w := by
  intro fuel
  induction fuel with
  | zero =>
    intro listed a w _ hr hy hS H
    refine ⟨fun h => (by rw [h] at hr; cases hr), fun j hj => ?_⟩
    by_cases hji : j = i
    · subst hji; exact hy.wpOp hi trivial ⟨fun h => hS (by rw [getD_set_ne false him] at h; exact h), H⟩
    · have := ready_mono hj hji
      rw [H.1] at this
      cases this
  | succ fuel ih =>
    intro listed a w hfree hr hy hS H
    refine ⟨fun h => (by rw [h] at hr; cases hr), fun j hj => ?_⟩
    by_cases hji : j = i
    · subst hji; exact hy.wpOp hi trivial ⟨fun h => hS (by rw [getD_set_ne false him] at h; exact h), H⟩
    · have h1 := H.2 j (ready_mono hj hji)
      obtain ⟨hjun, oj, hoj, hall⟩ := mem_ready.1 hj
      have hnot : ∀ e ∈ oj.after, Region.binds md e = true → e.on ≠ i := fun e he hb heq => by
        have h1 := hall e he hb
        have h0 := (mem_ready.1 hr).1
        rw [heq] at h1
        rcases Nat.lt_or_ge i listed.size with h' | h'
        · simp [h'] at h0 h1; rw [h0] at h1; cases h1
        · simp [Array.getElem?_eq_none h'] at h1
      have h2 := wpOp_putIf hoj (hfree j oj hoj hji hjun hnot) (fun cs b => hsel i oi cs b hi) (fun cs b => hsel j oj cs b hoj) hQ hy h1
      have hfree' : ∀ k ok, ops[k]? = some ok → k ≠ i → (listed.setIfInBounds j true).getD k true = false →
          (∀ e ∈ ok.after, Region.binds md e = true → e.on ≠ i) → oi.apart ops ok = true := fun k ok hk hki hun hno => by
        refine hfree k ok hk hki ?_ hno
        by_cases hjk : j = k
        · subst hjk; exact hjun
        · rw [getD_set_ne true hjk] at hun; exact hun
      have hC : ∀ w', (((listed.setIfInBounds i true).setIfInBounds j true).getD m false = false → C w') → ((listed.setIfInBounds j true).getD m false = false → C w') := fun w' h h' => h (by
        rw [Array.setIfInBounds_comm _ _ (Ne.symm hji), getD_set_ne false him]; exact h')
      refine wpOp_mono (fun a' w' h3 => ⟨hC w' h3.2.1, ih (listed.setIfInBounds j true) a' w' hfree' (ready_mono hr (Ne.symm hji)) h3.1 (hC w' h3.2.1) ?_⟩) h2
      rw [Array.setIfInBounds_comm _ _ hji]
      exact h3.2.2
theorem wpAnyM_take {i d : Nat} {oi : Oper} {v : Value} {fuel : Nat} {listed : Array Bool} {a : Act} {w : World} (hi : ops[i]? = some oi) (hd : oi.dst = some d)
    (hs : Region.noSelect ops = true) (hf : Region.free md ops listed i = true) (hr : (Region.ready md ops listed).contains i = true)
    (hQ : ∀ c a w, Q (.panic c) (a.put (some d) v) w → Q (.panic c) a w) (him : decide (i = m) = false) (hm : (match ops[m]? with | some om => om.after.any fun e => Region.binds md e && e.on == i | none => true) = true) (hlm : listed.getD m false = false) (hy : YieldsIf P ops C oi v a) (hS : C w)
    (h : wpAnyM P md ops Q C m fuel (listed.setIfInBounds i true) (a.put (some d) v) w) : wpAnyM P md ops Q C m (fuel + 1) listed a w := by
  rw [← hd] at h hQ
  refine wpAnyM_first hi (Region.noSelect_spec hs) hQ (by simpa using him) (fun om hom => ?_) fuel listed a w (Region.free_spec hi hf) hlm (by simpa using hr) hy hS h
  rw [hom] at hm
  obtain ⟨q, hq, h2⟩ := Array.any_eq_true.1 hm
  simp only [Bool.and_eq_true, beq_iff_eq] at h2
  exact ⟨_, Array.getElem_mem hq, h2.1, h2.2⟩
theorem wpAnyM_takeT {i d : Nat} {oi : Oper} {v : Value} {fuel : Nat} {listed : Array Bool} {a : Act} {w : World} (hi : ops[i]? = some oi) (hd : oi.dst = some d)
    (hs : Region.noSelect ops = true) (hf : Region.free md ops listed i = true) (hr : (Region.ready md ops listed).contains i = true)
    (hQ : ∀ c a w, Q (.panic c) (a.put (some d) v) w → Q (.panic c) a w) (him : decide (i = m) = false) (hy : YieldsIf P ops (fun _ => True) oi v a) (hS : listed.getD m false = false → C w)
    (h : wpAnyM P md ops Q C m fuel (listed.setIfInBounds i true) (a.put (some d) v) w) : wpAnyM P md ops Q C m (fuel + 1) listed a w := by
  rw [← hd] at h hQ
  exact wpAnyM_firstT hi (Region.noSelect_spec hs) hQ (by simpa using him) fuel listed a w (Region.free_spec hi hf) (by simpa using hr) hy hS h
def AllReadyM (P : Program) (md : Region.Mode) (ops : Array Oper) (Q : Exit → Act → World → Prop) (C : World → Prop) (m fuel : Nat) (listed : Array Bool) (a : Act) (w : World) (rs : List Nat) : Prop :=
  ∀ i ∈ rs, wpOp P ops Q i (fun a' w' => ((listed.setIfInBounds i true).getD m false = false → C w') ∧ wpAnyM P md ops Q C m fuel (listed.setIfInBounds i true) a' w') a w
theorem AllReadyM.nil {fuel : Nat} {listed : Array Bool} {a : Act} {w : World} : AllReadyM P md ops Q C m fuel listed a w [] := fun _ h => by cases h
theorem AllReadyM.cons {fuel : Nat} {listed : Array Bool} {a : Act} {w : World} {i : Nat} {o : Oper} {rs : List Nat} (ho : ops[i]? = some o)
    (h : ∀ K' : Act → World → Prop, Shut (∀ a w, ((listed.setIfInBounds i true).getD m false = false → C w) → wpAnyM P md ops Q C m fuel (listed.setIfInBounds i true) a w → K' a w) → if Region.wanted o (yielded ops a.tmps) = true then Oper.wp P o a w K' Q else K' (a.put o.dst undef) w)
    (hs : AllReadyM P md ops Q C m fuel listed a w rs) : AllReadyM P md ops Q C m fuel listed a w (i :: rs) := fun j hj => by
  rcases List.mem_cons.1 hj with rfl | hj
  · exact wpOp_step ho (fun K' hK => h K' (fun a w hS hW => hK a w ⟨hS, hW⟩))
  · exact hs j hj
theorem wpAnyM_ready {rs : List Nat} {fuel : Nat} {listed : Array Bool} {a : Act} {w : World} (hr : Region.ready md ops listed = rs) (hne : rs ≠ [])
    (h : AllReadyM P md ops Q C m fuel listed a w rs) : wpAnyM P md ops Q C m (fuel + 1) listed a w := ⟨fun h0 => absurd (hr ▸ h0) hne, hr ▸ h⟩
theorem wpAnyM_done {listed : Array Bool} {a : Act} {w : World} (hr : Region.ready md ops listed = []) (h : Q .normal a w) : ∀ fuel, wpAnyM P md ops Q C m fuel listed a w
  | 0 => ⟨hr, h⟩
  | _ + 1 => ⟨fun _ => h, by rw [hr]; simp⟩
theorem wp_region_M (m : Nat) {id : Nat} {a : Act} {w : World} (hm : P.follows .mixedOrders = true) (h : wpAnyM P .any ops Q C m ops.size (Array.replicate ops.size false) a w.drew) : (Code.region id ops true).wp P Q a w :=
  wp_region_any hm (wpAny_of_M _ _ _ _ h)
end
end Go.Proofs.YteceghbjjnknbaaGreat
